/- The contracts of cycle.Span and of the document's Span. -/
import Derived.Test.YtbkbeblogfakjaaCycSpan
namespace Go.Proofs.Ytbkbeblogfakjaa
open Go.RowKit
set_option linter.unusedVariables false
set_option linter.unusedSimpArgs false

theorem Cal.spanR_last {s c n v er : Int} (h : Cal.lastR s c = (v, er)) (h2 : er ≠ 0) : Cal.spanR s c n = ((0, 0), er) := by unfold Cal.spanR; rw [h, if_neg h2]
theorem Cal.spanR_num {s c n v : Int} (h : Cal.lastR s c = (v, 0)) (h2 : ¬ (1 ≤ n ∧ n ≤ 300)) : Cal.spanR s c n = ((0, 0), 1) := by unfold Cal.spanR; rw [h, if_pos rfl, if_neg h2]
theorem Cal.spanR_in {s c n v : Int} (h : Cal.lastR s c = (v, 0)) (h2 : 1 ≤ n) (h3 : n ≤ 300) : Cal.spanR s c n = Cal.spanN c (n - 1).toNat s := by unfold Cal.spanR; rw [h, if_pos rfl, if_pos ⟨h2, h3⟩]
theorem Cal.spanN_err (c : Int) : ∀ k f, (Cal.spanN c k f).2 ≠ 0 → (Cal.spanN c k f).1 = (0, 0) := by
  intro k
  induction k with
  | zero =>
    intro f h
    rw [Cal.spanN] at h ⊢
    split
    · rename_i h1; rw [if_pos h1] at h; exact absurd rfl h
    · rfl
  | succ k ih =>
    intro f h
    rw [Cal.spanN] at h ⊢
    split
    · rename_i h1; rw [if_pos h1] at h; exact ih _ h
    · rfl

/-- What Span answers. -/
def spanV (s : (Int × Int) × Int) : Value := .tuple #[.agg #[.int .i64 s.1.1, .int .i64 s.1.2], .int .i64 s.2]

theorem three (w : World) (t1 t2 t3 : TypeId) (c1 c2 c3 : Array Value) : Blk (((w.alloc (.cells c1 t1)).alloc (.cells c2 t2)).alloc (.cells c3 t3)) w.heap.size t1 c1 ∧ Blk (((w.alloc (.cells c1 t1)).alloc (.cells c2 t2)).alloc (.cells c3 t3)) (w.heap.size + 1) t2 c2 ∧ Blk (((w.alloc (.cells c1 t1)).alloc (.cells c2 t2)).alloc (.cells c3 t3)) (w.heap.size + 1 + 1) t3 c3 ∧ (((w.alloc (.cells c1 t1)).alloc (.cells c2 t2)).alloc (.cells c3 t3)).heap.size ≥ w.heap.size + 3 ∧ Below w.heap.size w (((w.alloc (.cells c1 t1)).alloc (.cells c2 t2)).alloc (.cells c3 t3)) := by
  have h1 := Blk.new w t1 c1
  have h2 := Blk.new (w.alloc (.cells c1 t1)) t2 c2
  have h3 := Blk.new ((w.alloc (.cells c1 t1)).alloc (.cells c2 t2)) t3 c3
  rw [show (w.alloc (.cells c1 t1)).heap.size = w.heap.size + 1 from by simp] at h2
  rw [show ((w.alloc (.cells c1 t1)).alloc (.cells c2 t2)).heap.size = w.heap.size + 1 + 1 from by simp] at h3
  exact ⟨(h1.alloc _).alloc _, h2.alloc _, h3, by simp, (((Below.refl _ w).alloc (Nat.le_refl _) _).alloc (by simp) _).alloc (by simp; omega) _⟩

set_option maxRecDepth 100000 in
set_option maxHeartbeats 1000000 in
theorem span_any (s c n : Int) (w : World) : Calls Try.prog 29 #[.int .i64 s, .int .i64 c, .int .i64 n] w fun e w' => e = .returned (spanV (Cal.spanR s c n)) ∧ Below w.heap.size w w' := by
  obtain ⟨b1, b2, b3, bs, bb⟩ := three w 3 39 39 #[.int .i64 n] (scells 0 0) (scells 0 0)
  have B1 := Lib.hid b1
  have B2 := Lib.hid b2
  have B3 := Lib.hid b3
  have BS := Lib.hid bs
  have BB := Lib.hid bb
  clear b1 b2 b3 bs bb
  generalize hL : Cal.lastR s c = L
  obtain ⟨v, er⟩ := L
  have HL := Lib.hid hL
  by_cases he : er = 0
  · subst he
    by_cases hn : 1 ≤ n ∧ n ≤ 300
    · have hR := Cal.spanR_in hL hn.1 hn.2
      have HR := Lib.hid hR
      have d1 : decide (n < 1) = false := by simp; omega
      have d2 : decide (300 < n) = false := by simp; omega
      obtain ⟨n1, n2⟩ := hn
      by_cases h0 : (Cal.spanN c (n - 1).toNat s).2 = 0
      · generalize hN : Cal.spanN c (n - 1).toNat s = N at *
        obtain ⟨⟨x, y⟩, z⟩ := N
        dsimp only at h0
        subst h0
        have HN := Lib.hid hN
        clear hN hR hL
        go_enter Try.func29, Try.ntmps29
        go_wp2_with fail
        refine (last_any _ _ _).mono ?_
        rintro e v1 ⟨rfl, hb1⟩
        rw [HL.out]
        have hbe1 := BB.out.trans (hb1.mono (Nat.le_trans (by omega) BS.out))
        have k1 := B1.out.below hb1 (Nat.lt_of_lt_of_le (by omega) BS.out)
        have k2 := B2.out.below hb1 (Nat.lt_of_lt_of_le (by omega) BS.out)
        have k3 := B3.out.below hb1 (Nat.lt_of_lt_of_le (by omega) BS.out)
        clear hb1 B1 B2 B3 BS BB
        have K1 := Lib.hid k1
        have K2 := Lib.hid k2
        have K3 := Lib.hid k3
        have HB := Lib.hid hbe1
        have q := ocell k1
        clear k1 k2 k3 hbe1
        go_wp2_with fail
        refine (spansSpan_any s c n 0 0 _ _ (w.heap.size + 1 + 1) _ n1 n2 K3.out K1.out (by omega) (by omega)).mono ?_
        rintro e v2 ⟨rfl, hout, hb2⟩
        rw [HN.out] at hout ⊢
        have k3 := hout rfl
        have k2 := K2.out.below hb2 (by omega)
        have q1 := scell0 k3
        have q2 := scell1 k3
        have q3 := scell0 k2
        have q4 := scell1 k2
        have z1 := k2.frozen 0
        have z2 := k2.frozen 1
        have hbe2 := HB.out.trans (hb2.mono (by omega))
        clear hout hb2
        go_wp2_with fail
        have e1 := scell0 (sset1 (l' := y) (sset0 (f' := x) k2))
        have e2 := scell1 (sset1 (l' := y) (sset0 (f' := x) k2))
        refine bodyPost_ret (v := spanV ((x, y), 0)) (by simp [results, Try.results29, go_sem, spanV, e1, e2]) rfl ⟨?_, ?_⟩
        · rw [HR.out]
        · exact (hbe2.setCell (by simp) _).setCell (by simp) _
      · have hz := Cal.spanN_err c _ _ h0
        generalize hN : Cal.spanN c (n - 1).toNat s = N at *
        obtain ⟨⟨x, y⟩, z⟩ := N
        dsimp only at h0 hz
        obtain ⟨rfl, rfl⟩ := Prod.mk.inj hz
        have h0' : (z != 0) = true := by simpa using h0
        have HN := Lib.hid hN
        clear hN hR hL hz h0
        go_enter Try.func29, Try.ntmps29
        go_wp2_with fail
        refine (last_any _ _ _).mono ?_
        rintro e v1 ⟨rfl, hb1⟩
        rw [HL.out]
        have hbe1 := BB.out.trans (hb1.mono (Nat.le_trans (by omega) BS.out))
        have k1 := B1.out.below hb1 (Nat.lt_of_lt_of_le (by omega) BS.out)
        have k2 := B2.out.below hb1 (Nat.lt_of_lt_of_le (by omega) BS.out)
        have k3 := B3.out.below hb1 (Nat.lt_of_lt_of_le (by omega) BS.out)
        clear hb1 B1 B2 B3 BS BB
        have K1 := Lib.hid k1
        have K2 := Lib.hid k2
        have K3 := Lib.hid k3
        have HB := Lib.hid hbe1
        have q := ocell k1
        clear k1 k2 k3 hbe1
        go_wp2_with fail
        refine (spansSpan_any s c n 0 0 _ _ (w.heap.size + 1 + 1) _ n1 n2 K3.out K1.out (by omega) (by omega)).mono ?_
        rintro e v2 ⟨rfl, hout, hb2⟩
        rw [HN.out]
        have k2 := K2.out.below hb2 (by omega)
        have q3 := scell0 k2
        have q4 := scell1 k2
        have z1 := k2.frozen 0
        have z2 := k2.frozen 1
        have hbe2 := HB.out.trans (hb2.mono (by omega))
        clear hout hb2
        go_wp2_with fail
        have e1 := scell0 (sset1 (l' := 0) (sset0 (f' := 0) k2))
        have e2 := scell1 (sset1 (l' := 0) (sset0 (f' := 0) k2))
        refine bodyPost_ret (v := spanV ((0, 0), z)) (by simp [results, Try.results29, go_sem, spanV, e1, e2]) rfl ⟨?_, ?_⟩
        · rw [HR.out]
        · exact (hbe2.setCell (by simp) _).setCell (by simp) _
    · have hR := Cal.spanR_num hL hn
      have HR := Lib.hid hR
      by_cases h1 : n < 1
      · have d1 : decide (n < 1) = true := by simp; omega
        clear hR hL hn
        go_enter Try.func29, Try.ntmps29
        go_wp2_with fail
        refine (last_any _ _ _).mono ?_
        rintro e v1 ⟨rfl, hb1⟩
        rw [HL.out]
        have hbe1 := BB.out.trans (hb1.mono (Nat.le_trans (by omega) BS.out))
        have k1 := B1.out.below hb1 (Nat.lt_of_lt_of_le (by omega) BS.out)
        have k2 := B2.out.below hb1 (Nat.lt_of_lt_of_le (by omega) BS.out)
        have k3 := B3.out.below hb1 (Nat.lt_of_lt_of_le (by omega) BS.out)
        clear hb1 B1 B2 B3 BS BB
        have q := ocell k1
        have q1 := scell0 k3
        have q2 := scell1 k3
        have q3 := scell0 k2
        have q4 := scell1 k2
        have z1 := k2.frozen 0
        have z2 := k2.frozen 1
        go_wp2_with fail
        have e1 := scell0 (sset1 (l' := 0) (sset0 (f' := 0) k2))
        have e2 := scell1 (sset1 (l' := 0) (sset0 (f' := 0) k2))
        refine bodyPost_ret (v := spanV ((0, 0), 1)) (by simp [results, Try.results29, go_sem, spanV, e1, e2]) rfl ⟨?_, ?_⟩
        · rw [HR.out]
        · exact (hbe1.setCell (by simp) _).setCell (by simp) _
      · have d1 : decide (n < 1) = false := by simp; omega
        have d2 : decide (300 < n) = true := by simp; omega
        clear hR hL hn
        go_enter Try.func29, Try.ntmps29
        go_wp2_with fail
        refine (last_any _ _ _).mono ?_
        rintro e v1 ⟨rfl, hb1⟩
        rw [HL.out]
        have hbe1 := BB.out.trans (hb1.mono (Nat.le_trans (by omega) BS.out))
        have k1 := B1.out.below hb1 (Nat.lt_of_lt_of_le (by omega) BS.out)
        have k2 := B2.out.below hb1 (Nat.lt_of_lt_of_le (by omega) BS.out)
        have k3 := B3.out.below hb1 (Nat.lt_of_lt_of_le (by omega) BS.out)
        clear hb1 B1 B2 B3 BS BB
        have q := ocell k1
        have q1 := scell0 k3
        have q2 := scell1 k3
        have q3 := scell0 k2
        have q4 := scell1 k2
        have z1 := k2.frozen 0
        have z2 := k2.frozen 1
        go_wp2_with fail
        have e1 := scell0 (sset1 (l' := 0) (sset0 (f' := 0) k2))
        have e2 := scell1 (sset1 (l' := 0) (sset0 (f' := 0) k2))
        refine bodyPost_ret (v := spanV ((0, 0), 1)) (by simp [results, Try.results29, go_sem, spanV, e1, e2]) rfl ⟨?_, ?_⟩
        · rw [HR.out]
        · exact (hbe1.setCell (by simp) _).setCell (by simp) _
  · have hR := Cal.spanR_last (n := n) hL he
    have HR := Lib.hid hR
    have h0' : (er != 0) = true := by simpa using he
    clear hR hL
    go_enter Try.func29, Try.ntmps29
    go_wp2_with fail
    refine (last_any _ _ _).mono ?_
    rintro e v1 ⟨rfl, hb1⟩
    rw [HL.out]
    have hbe1 := BB.out.trans (hb1.mono (Nat.le_trans (by omega) BS.out))
    have k1 := B1.out.below hb1 (Nat.lt_of_lt_of_le (by omega) BS.out)
    have k2 := B2.out.below hb1 (Nat.lt_of_lt_of_le (by omega) BS.out)
    have k3 := B3.out.below hb1 (Nat.lt_of_lt_of_le (by omega) BS.out)
    clear hb1 B1 B2 B3 BS BB
    have q := ocell k1
    have q1 := scell0 k3
    have q2 := scell1 k3
    have q3 := scell0 k2
    have q4 := scell1 k2
    have z1 := k2.frozen 0
    have z2 := k2.frozen 1
    go_wp2_with fail
    have e1 := scell0 (sset1 (l' := 0) (sset0 (f' := 0) k2))
    have e2 := scell1 (sset1 (l' := 0) (sset0 (f' := 0) k2))
    refine bodyPost_ret (v := spanV ((0, 0), er)) (by simp [results, Try.results29, go_sem, spanV, e1, e2]) rfl ⟨?_, ?_⟩
    · rw [HR.out]
    · exact (hbe1.setCell (by simp) _).setCell (by simp) _
end Go.Proofs.Ytbkbeblogfakjaa
