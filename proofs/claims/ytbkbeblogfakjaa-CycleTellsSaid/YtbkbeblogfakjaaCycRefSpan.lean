/- The contract of the document's Span. -/
import Derived.Test.YtbkbeblogfakjaaCycSpan2
namespace Go.Proofs.Ytbkbeblogfakjaa
open Go.RowKit
set_option linter.unusedVariables false
set_option linter.unusedSimpArgs false

theorem Cal.spanN_last {s c v er : Int} (k : Nat) (h : Cal.lastR s c = (v, er)) (h2 : er ≠ 0) : Cal.spanN c k s = ((0, 0), er) := by
  cases k with
  | zero => rw [Cal.spanN, h, if_neg h2]
  | succ k => rw [Cal.spanN, h, if_neg h2]
theorem Cal.spanR_in' {s c n : Int} (h2 : 1 ≤ n) (h3 : n ≤ 300) : Cal.spanR s c n = Cal.spanN c (n - 1).toNat s := by
  generalize hL : Cal.lastR s c = L
  obtain ⟨v, er⟩ := L
  by_cases h : er = 0
  · subst h; exact Cal.spanR_in hL h2 h3
  · rw [Cal.spanR_last hL h, Cal.spanN_last _ hL h]

theorem pair (w : World) (t1 t2 : TypeId) (c1 c2 : Array Value) : Blk ((w.alloc (.cells c1 t1)).alloc (.cells c2 t2)) w.heap.size t1 c1 ∧ Blk ((w.alloc (.cells c1 t1)).alloc (.cells c2 t2)) (w.heap.size + 1) t2 c2 ∧ ((w.alloc (.cells c1 t1)).alloc (.cells c2 t2)).heap.size ≥ w.heap.size + 2 ∧ Below w.heap.size w ((w.alloc (.cells c1 t1)).alloc (.cells c2 t2)) := by
  have h1 := Blk.new w t1 c1
  have h2 := Blk.new (w.alloc (.cells c1 t1)) t2 c2
  rw [show (w.alloc (.cells c1 t1)).heap.size = w.heap.size + 1 from by simp] at h2
  exact ⟨h1.alloc _, h2, by simp, ((Below.refl _ w).alloc (Nat.le_refl _) _).alloc (by simp) _⟩

set_option maxRecDepth 100000 in
set_option maxHeartbeats 1000000 in
theorem refSpan_no (s c n : Int) (w : World) (hn : ¬ (1 ≤ n ∧ n ≤ 300)) : Calls Try.prog 31 #[.int .i64 s, .int .i64 c, .int .i64 n] w fun e w' => e = .returned (spanV (Cal.spanR s c n)) ∧ Below w.heap.size w w' := by
  obtain ⟨b1, b2, bs, bb⟩ := pair w 39 39 (scells 0 0) (scells 0 0)
  have B1 := Lib.hid b1
  have BS := Lib.hid bs
  have BB := Lib.hid bb
  clear b1 b2 bs bb
  generalize hL : Cal.lastR s c = L
  obtain ⟨v, er⟩ := L
  have HL := Lib.hid hL
  have hd : decide (n < 1) = true ∨ (decide (n < 1) = false ∧ decide (300 < n) = true) := by
    simp; omega
  by_cases he : er = 0
  · subst he
    have hR := Cal.spanR_num hL hn
    have HR := Lib.hid hR
    clear hn hR hL
    rcases hd with d1 | ⟨d1, d2⟩ <;>
    · go_enter Try.func31, Try.ntmps31
      go_wp2_with fail
      refine (refLast_any _ _ _).mono ?_
      rintro e v1 ⟨rfl, hb1⟩
      rw [HL.out]
      have hbe1 := BB.out.trans (hb1.mono (Nat.le_trans (by omega) BS.out))
      have k2 := B1.out.below hb1 (Nat.lt_of_lt_of_le (by omega) BS.out)
      clear hb1 B1 BS BB
      have q3 := scell0 k2
      have q4 := scell1 k2
      have z1 := k2.frozen 0
      have z2 := k2.frozen 1
      go_wp2_with fail
      have e1 := scell0 (sset1 (l' := 0) (sset0 (f' := 0) k2))
      have e2 := scell1 (sset1 (l' := 0) (sset0 (f' := 0) k2))
      refine bodyPost_ret (v := spanV ((0, 0), 1)) (by simp [results, Try.results31, go_sem, spanV, e1, e2]) rfl ⟨?_, ?_⟩
      · rw [HR.out]
      · exact (hbe1.setCell (by simp) _).setCell (by simp) _
  · have hR := Cal.spanR_last (n := n) hL he
    have HR := Lib.hid hR
    have h0' : (er != 0) = true := by simpa using he
    clear hn hR hL
    rcases hd with d1 | ⟨d1, d2⟩ <;>
    · go_enter Try.func31, Try.ntmps31
      go_wp2_with fail
      refine (refLast_any _ _ _).mono ?_
      rintro e v1 ⟨rfl, hb1⟩
      rw [HL.out]
      have hbe1 := BB.out.trans (hb1.mono (Nat.le_trans (by omega) BS.out))
      have k2 := B1.out.below hb1 (Nat.lt_of_lt_of_le (by omega) BS.out)
      clear hb1 B1 BS BB
      have q3 := scell0 k2
      have q4 := scell1 k2
      have z1 := k2.frozen 0
      have z2 := k2.frozen 1
      go_wp2_with fail
      have e1 := scell0 (sset1 (l' := 0) (sset0 (f' := 0) k2))
      have e2 := scell1 (sset1 (l' := 0) (sset0 (f' := 0) k2))
      refine bodyPost_ret (v := spanV ((0, 0), er)) (by simp [results, Try.results31, go_sem, spanV, e1, e2]) rfl ⟨?_, ?_⟩
      · rw [HR.out]
      · exact (hbe1.setCell (by simp) _).setCell (by simp) _

set_option maxRecDepth 100000 in
set_option maxHeartbeats 2000000 in
theorem refSpan_any (s c n : Int) (w : World) : Calls Try.prog 31 #[.int .i64 s, .int .i64 c, .int .i64 n] w fun e w' => e = .returned (spanV (Cal.spanR s c n)) ∧ Below w.heap.size w w' := by
  by_cases hn : 1 ≤ n ∧ n ≤ 300
  · obtain ⟨n1, n2⟩ := hn
    obtain ⟨b1, b2, bs, bb⟩ := pair w 39 39 (scells 0 0) (scells 0 0)
    have B1 := Lib.hid b1
    have B2 := Lib.hid b2
    have BS := Lib.hid bs
    have BB := Lib.hid bb
    clear b1 b2 bs bb
    have hS := Cal.spanR_in' (s := s) (c := c) n1 n2
    generalize Cal.spanR s c n = S at *
    have HS := Lib.hid hS
    clear hS
    have d1 : decide (n < 1) = false := by simp; omega
    have d2 : decide (300 < n) = false := by simp; omega
    go_enter Try.func31, Try.ntmps31
    go_wp2_with fail
    go_loopw [9, 12] (fun f i wr => ∃ (k f' o0 o1 : Int), i = .int .i64 k ∧ f = .int .i64 f' ∧ 0 ≤ k ∧ k ≤ n ∧ (k < n → S = Cal.spanN c (n - 1 - k).toNat f') ∧ (k = n → S = ((o0, o1), 0)) ∧ Blk wr w.heap.size 39 (scells 0 0) ∧ Blk wr (w.heap.size + 1) 39 (scells o0 o1) ∧ Below w.heap.size w wr) (fun _ i _ => (n - intOf i).toNat)
    case atStart => exact ⟨0, s, 0, 0, rfl, rfl, by omega, by omega, fun _ => by rw [HS.out]; congr 1; omega, by omega, B1.out, B2.out, BB.out⟩
    case round =>
      obtain ⟨k, f', o0, o1, rfl, rfl, k1, k2, hA, hZ, r1, r2, rb⟩ := hrel
      have rsz := rb.size
      have rlt := r2.lt
      clear B1 B2 BS BB HS
      by_cases hk : k < n
      · have hA' := hA hk
        clear hA hZ
        generalize hL : Cal.lastR f' c = L
        obtain ⟨v, er⟩ := L
        have HL := Lib.hid hL
        have R1 := Lib.hid r1
        have R2 := Lib.hid r2
        have RB := Lib.hid rb
        clear r1 r2 rb
        by_cases he : er = 0
        · subst he
          obtain ⟨y1, y2, y3, y4, y5, y6⟩ := Cal.lastR_inv hL
          obtain ⟨y7, y8⟩ := Cal.lastV_ge (f := f') (cd := c) y1 y2 y3 y4
          rw [← y5] at y7
          clear y5 y8
          have hB1 : k + 1 < n → S = Cal.spanN c (n - 1 - (k + 1)).toNat (v + 1) := fun h => by
            rw [hA', show (n - 1 - k).toNat = (n - 1 - (k + 1)).toNat + 1 by omega, Cal.spanN, hL, if_pos rfl]
          have hB2 : k + 1 = n → S = ((f', v), 0) := fun h => by
            rw [hA', show (n - 1 - k).toNat = 0 by omega, Cal.spanN, hL, if_pos rfl]
          have HB1 := Lib.hid hB1
          have HB2 := Lib.hid hB2
          clear hA' hL hB1 hB2
          go_wp2_with fail
          refine (refLast_any _ _ _).mono ?_
          rintro e v1 ⟨rfl, hb1⟩
          rw [HL.out]
          have k1' := R1.out.below hb1 R1.out.lt
          have k2' := R2.out.below hb1 R2.out.lt
          have kb := RB.out.trans (hb1.mono (by omega))
          have ksz := kb.size
          clear hb1 R1 R2 RB
          have q3 := scell0 k2'
          have q4 := scell1 k2'
          have z1 := k2'.frozen 0
          have z2 := k2'.frozen 1
          go_wp2_with fail
          go_roundw
          case rel => exact ⟨k + 1, v + 1, f', v, rfl, rfl, by omega, by omega, HB1.out, HB2.out, (k1'.far (by simp) _).far (by simp) _, sset1 (sset0 k2'), (kb.setCell (by simp) _).setCell (by simp) _⟩
          case measure => simp [intOf]; omega
        · have hx : (er != 0) = true := by simpa using he
          have hres : S = ((0, 0), er) := by rw [hA']; exact Cal.spanN_last _ hL he
          have HRC := Lib.hid hres
          clear hres hL hA'
          go_wp2_with fail
          refine (refLast_any _ _ _).mono ?_
          rintro e v1 ⟨rfl, hb1⟩
          rw [HL.out]
          have k1' := R1.out.below hb1 R1.out.lt
          have kb := RB.out.trans (hb1.mono (by omega))
          clear hb1 R1 R2 RB
          have q3 := scell0 k1'
          have q4 := scell1 k1'
          have z1 := k1'.frozen 0
          have z2 := k1'.frozen 1
          go_wp2_with fail
          have e1 := scell0 (sset1 (l' := 0) (sset0 (f' := 0) k1'))
          have e2 := scell1 (sset1 (l' := 0) (sset0 (f' := 0) k1'))
          refine bodyPost_ret (v := spanV ((0, 0), er)) (by simp [results, Try.results31, go_sem, spanV, e1, e2]) rfl ⟨?_, ?_⟩
          · rw [HRC.out]
          · exact (kb.setCell (by simp) _).setCell (by simp) _
      · have hres := hZ (by omega)
        have HRC := Lib.hid hres
        clear hres hA hZ
        have q1 := scell0 r2
        have q2 := scell1 r2
        have q3 := scell0 r1
        have q4 := scell1 r1
        have z1 := r1.frozen 0
        have z2 := r1.frozen 1
        go_wp2_with fail
        have e1 := scell0 (sset1 (l' := o1) (sset0 (f' := o0) r1))
        have e2 := scell1 (sset1 (l' := o1) (sset0 (f' := o0) r1))
        refine bodyPost_ret (v := spanV ((o0, o1), 0)) (by simp [results, Try.results31, go_sem, spanV, e1, e2]) rfl ⟨?_, ?_⟩
        · rw [HRC.out]
        · exact (rb.setCell (by simp) _).setCell (by simp) _
  · exact refSpan_no s c n w hn
end Go.Proofs.Ytbkbeblogfakjaa
