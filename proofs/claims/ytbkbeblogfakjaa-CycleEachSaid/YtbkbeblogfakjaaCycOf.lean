/- The contracts of cycle.find, Of and All. -/
import Derived.Test.YtbkbeblogfakjaaCycFind2
import Derived.Test.YtbkbeblogfakjaaLater
namespace Go.Proofs.Ytbkbeblogfakjaa
open Go.RowKit
set_option linter.unusedVariables false
set_option linter.unusedSimpArgs false

theorem own_base {w : World} {base base' : Nat} {e : TypeId} {size : Nat} {v : Value} {n : Nat} {xs : List Value} (h : w.ownsRow base e size v n xs) (hb : base' ≤ base) : w.ownsRow base' e size v n xs := by
  refine ⟨h.1, ?_⟩
  rcases h.2 with hn | ⟨g, cap, cur, hv, hg, rest⟩
  · exact .inl hn
  · exact .inr ⟨g, cap, cur, hv, by omega, rest⟩

set_option maxRecDepth 100000 in
set_option maxHeartbeats 1000000 in
theorem find_any (s c day : Int) (w : World) : Calls Try.prog 41 #[.int .i64 s, .int .i64 c, .int .i64 day] w fun e w' => ∃ v, e = .returned (.tuple #[v, .bool (Cal.findL c day 300 s).2]) ∧ w'.ownsRow w.heap.size 39 2 v (Cal.findL c day 300 s).1.length (spanCells (Cal.findL c day 300 s).1) ∧ Below w.heap.size w w' := by
  obtain ⟨b1, b2, b3, bs, bb⟩ := three w 3 45 4 #[.int .i64 day] #[.slice none 0 0] #[.bool false]
  have B1 := Lib.hid b1
  have B2 := Lib.hid b2
  have B3 := Lib.hid b3
  have BS := Lib.hid bs
  have BB := Lib.hid bb
  clear b1 b2 b3 bs bb
  generalize hR : Cal.findL c day 300 s = R
  have HR := Lib.hid hR
  clear hR
  go_enter Try.func41, Try.ntmps41
  go_wp2_with fail
  refine (spansFind_any s c day (w.heap.size + 1) w.heap.size (w.heap.size + 1 + 1) w.heap.size _ B2.out B1.out B3.out (by omega) (by omega) (by omega) (by omega) (by omega)).mono ?_
  rintro e v1 ⟨⟨er, rfl⟩, ⟨v, hF, hO⟩, hI, hb⟩
  rw [HR.out] at hO hI
  have hO2 := own_base hO (base' := w.heap.size) (Nat.le_trans (Nat.le_trans (by omega) BS.out) (Nat.le_succ _))
  have hbe := BB.out.trans hb
  clear hO hb B1 B2 B3 BS BB HR
  obtain ⟨A, c', rfl, _⟩ := own_form hO2
  have a1 := ocell hF
  have a2 := ocell hI
  clear hF hI
  go_wp2_with fail
  go_quiet (fail)
  go_wp2_with fail
  go_ret2
  exact ⟨_, rfl, own_keep hO2 fun g cs _ k => k.drewN _, hbe.trans ((Quiet.drewN _ _).below _)⟩

theorem Cal.ofR_last {s c d v er : Int} (h : Cal.lastR s c = (v, er)) (h2 : er ≠ 0) : Cal.ofR s c d = (0, er) := by unfold Cal.ofR; rw [h, if_neg h2]
theorem Cal.ofR_no {s c d v : Int} (h : Cal.lastR s c = (v, 0)) (h2 : (Cal.findL c d 300 s).2 = false) : Cal.ofR s c d = (0, 10) := by unfold Cal.ofR; rw [h, if_pos rfl, if_neg (by simp [h2])]
theorem Cal.ofR_in {s c d v : Int} (h : Cal.lastR s c = (v, 0)) (h2 : (Cal.findL c d 300 s).2 = true) : Cal.ofR s c d = (((Cal.findL c d 300 s).1.length : Int), 0) := by unfold Cal.ofR; rw [h, if_pos rfl, if_pos h2]

set_option maxRecDepth 100000 in
set_option maxHeartbeats 1000000 in
theorem of_any (s c day : Int) (w : World) : Calls Try.prog 32 #[.int .i64 s, .int .i64 c, .int .i64 day] w fun e w' => e = .returned (.tuple #[.int .i64 (Cal.ofR s c day).1, .int .i64 (Cal.ofR s c day).2]) ∧ Below w.heap.size w w' := by
  generalize hL : Cal.lastR s c = L
  obtain ⟨v, er⟩ := L
  have HL := Lib.hid hL
  by_cases he : er = 0
  · subst he
    have hlen := Cal.findL_len c day 300 s
    cases hb : (Cal.findL c day 300 s).2 with
    | false =>
      have hR := Cal.ofR_no hL hb
      have HR := Lib.hid hR
      have HB := Lib.hid hb
      clear hR hL hb
      go_enter Try.func32, Try.ntmps32
      go_wp2_with fail
      refine (last_any _ _ _).mono ?_
      rintro e v1 ⟨rfl, hb1⟩
      rw [HL.out]
      go_wp2_with fail
      refine (find_any _ _ _ _).mono ?_
      rintro e v2 ⟨x, rfl, hO, hb2⟩
      rw [HB.out]
      have hb2' := hb1.trans (hb2.mono hb1.size)
      clear hb1 hb2
      go_wp2_with fail
      go_ret2
      rw [HR.out]
      exact ⟨rfl, hb2'⟩
    | true =>
      have hR := Cal.ofR_in hL hb
      have HR := Lib.hid hR
      have HB := Lib.hid hb
      clear hR hL hb
      go_enter Try.func32, Try.ntmps32
      go_wp2_with fail
      refine (last_any _ _ _).mono ?_
      rintro e v1 ⟨rfl, hb1⟩
      rw [HL.out]
      go_wp2_with fail
      refine (find_any _ _ _ _).mono ?_
      rintro e v2 ⟨x, rfl, hO, hb2⟩
      rw [HB.out]
      have hb2' := hb1.trans (hb2.mono hb1.size)
      clear hb1 hb2
      obtain ⟨A, c', rfl, _⟩ := own_form hO
      go_wp2_with fail
      go_ret2
      rw [HR.out]
      exact ⟨rfl, hb2'⟩
  · have hR := Cal.ofR_last (d := day) hL he
    have HR := Lib.hid hR
    have hx : (er != 0) = true := by simpa using he
    clear hR hL
    go_enter Try.func32, Try.ntmps32
    go_wp2_with fail
    refine (last_any _ _ _).mono ?_
    rintro e v1 ⟨rfl, hb1⟩
    rw [HL.out]
    go_wp2_with fail
    go_ret2
    rw [HR.out]
    exact ⟨rfl, hb1⟩

theorem Cal.allR_no {s c d : Int} (h2 : (Cal.findL c d 300 s).2 = false) : Cal.allR s c d = [] := by unfold Cal.allR; rw [if_neg (by simp [h2])]
theorem Cal.allR_in {s c d : Int} (h2 : (Cal.findL c d 300 s).2 = true) : Cal.allR s c d = (Cal.findL c d 300 s).1 := by unfold Cal.allR; rw [if_pos h2]

set_option maxRecDepth 100000 in
set_option maxHeartbeats 1000000 in
theorem all_any (s c day : Int) (w : World) : Calls Try.prog 35 #[.int .i64 s, .int .i64 c, .int .i64 day] w fun e w' => ∃ A cap, e = .returned (.slice A (Cal.allR s c day).length cap) ∧ w'.ownsRow w.heap.size 39 2 (.slice A (Cal.allR s c day).length cap) (Cal.allR s c day).length (spanCells (Cal.allR s c day)) ∧ Below w.heap.size w w' := by
  cases hb : (Cal.findL c day 300 s).2 with
  | false =>
    have hR := Cal.allR_no hb
    have HR := Lib.hid hR
    have HB := Lib.hid hb
    clear hR hb
    go_enter Try.func35, Try.ntmps35
    go_wp2_with fail
    refine (find_any _ _ _ _).mono ?_
    rintro e v2 ⟨x, rfl, hO, hb2⟩
    rw [HB.out]
    go_wp2_with fail
    go_ret
    rw [HR.out]
    exact ⟨none, 0, rfl, World.ownsRow_nil _ _ _ _, hb2⟩
  | true =>
    have hR := Cal.allR_in hb
    have HR := Lib.hid hR
    have HB := Lib.hid hb
    clear hR hb
    go_enter Try.func35, Try.ntmps35
    go_wp2_with fail
    refine (find_any _ _ _ _).mono ?_
    rintro e v2 ⟨x, rfl, hO, hb2⟩
    rw [HB.out]
    obtain ⟨A, c', rfl, _⟩ := own_form hO
    go_wp2_with fail
    go_ret
    rw [HR.out]
    exact ⟨A, c', rfl, hO, hb2⟩
end Go.Proofs.Ytbkbeblogfakjaa
