/- The contracts of day.Number and of the document's: each answers what the plain arithmetic says. -/
import Derived.Test.YtbkbeblogfakjaaDay
import Derived.Deep.QuietTactic
import Derived.BigQuiet
namespace Go.Proofs.Ytbkbeblogfakjaa
open Go.RowKit
set_option linter.unusedVariables false
set_option linter.unusedSimpArgs false

theorem quiet_eq {P : Program} {f : FuncId} {args : Array Value} {w : World} {n : Nat} {v : Value}
    (h : Calls P f args (w.drewN n) fun e w' => e = .returned v ∧ w.drewN n = w') : Calls P f args (w.drewN n) fun e w'' => e = .returned v ∧ ∃ m, w'' = w.drewN m :=
  h.mono fun _ _ ⟨he, hm⟩ => ⟨he, n, hm.symm⟩
theorem quiet_add_eq {P : Program} {f : FuncId} {args : Array Value} {w : World} {a n : Nat} {v : Value}
    (h : Calls P f args (w.drewN (a + n)) fun e w' => e = .returned v ∧ w.drewN (a + n) = w') : Calls P f args (w.drewN (a + n)) fun e w'' => e = .returned v ∧ ∃ m, w'' = w.drewN (a + m) :=
  h.mono fun _ _ ⟨he, hm⟩ => ⟨he, n, hm.symm⟩

set_option maxRecDepth 100000 in
set_option maxHeartbeats 1000000 in
theorem number_no (y m d : Int) (w : World) (h : ¬ (1600 ≤ y ∧ y ≤ 9999 ∧ 1 ≤ d ∧ d ≤ Cal.len y m)) : Calls Try.prog 14 #[.agg #[.int .i64 y, .int .i64 m, .int .i64 d]] w fun e w' => e = .returned (.tuple #[.int .i64 0, .int .i64 10]) ∧ Below w.heap.size w w' := by
  have hb := (Below.refl w.heap.size w).alloc (Nat.le_refl _) (.cells #[.int .i64 y, .int .i64 m, .int .i64 d] 27)
  by_cases h1 : y < 1600
  · have d1 : decide (y < 1600) = true := by simp; omega
    clear h
    go_enter Try.func14, Try.ntmps14
    go_wp2_with fail
    go_quiet (fail)
    go_wp2_with fail
    go_ret2
    exact ⟨rfl, hb.trans ((Quiet.drewN _ _).below _)⟩
  by_cases h2 : 9999 < y
  · have d1 : decide (y < 1600) = false := by simp; omega
    have d2 : decide (9999 < y) = true := by simp; omega
    clear h
    go_enter Try.func14, Try.ntmps14
    go_wp2_with fail
    go_quiet (fail)
    go_wp2_with fail
    go_ret2
    exact ⟨rfl, hb.trans ((Quiet.drewN _ _).below _)⟩
  by_cases h3 : d < 1
  · have d1 : decide (y < 1600) = false := by simp; omega
    have d2 : decide (9999 < y) = false := by simp; omega
    have d3 : decide (d < 1) = true := by simp; omega
    clear h
    go_enter Try.func14, Try.ntmps14
    go_wp2_with fail
    go_quiet (fail)
    go_wp2_with fail
    go_ret2
    exact ⟨rfl, hb.trans ((Quiet.drewN _ _).below _)⟩
  have d1 : decide (y < 1600) = false := by simp; omega
  have d2 : decide (9999 < y) = false := by simp; omega
  have d3 : decide (d < 1) = false := by simp; omega
  have h4 : Cal.len y m < d := by omega
  have d4 : decide (Cal.len y m < d) = true := by simp; omega
  clear h
  go_enter Try.func14, Try.ntmps14
  go_wp2_with fail
  go_quiet ((go_at_call 15; exact quiet_eq (length_any _ _ _)))
  go_wp2_with fail
  go_ret2
  exact ⟨rfl, hb.trans ((Quiet.drewN _ _).below _)⟩

set_option maxRecDepth 100000 in
set_option maxHeartbeats 1000000 in
theorem refNumber_no (y m d : Int) (w : World) (h : ¬ (1600 ≤ y ∧ y ≤ 9999 ∧ 1 ≤ d ∧ d ≤ Cal.len y m)) : Calls Try.prog 20 #[.agg #[.int .i64 y, .int .i64 m, .int .i64 d]] w fun e w' => e = .returned (.tuple #[.int .i64 0, .int .i64 10]) ∧ Below w.heap.size w w' := by
  have hb := (Below.refl w.heap.size w).alloc (Nat.le_refl _) (.cells #[.int .i64 y, .int .i64 m, .int .i64 d] 27)
  by_cases h1 : y < 1600
  · have d1 : decide (y < 1600) = true := by simp; omega
    clear h
    go_enter Try.func20, Try.ntmps20
    go_wp2_with fail
    go_quiet (fail)
    go_wp2_with fail
    go_ret2
    exact ⟨rfl, hb.trans ((Quiet.drewN _ _).below _)⟩
  by_cases h2 : 9999 < y
  · have d1 : decide (y < 1600) = false := by simp; omega
    have d2 : decide (9999 < y) = true := by simp; omega
    clear h
    go_enter Try.func20, Try.ntmps20
    go_wp2_with fail
    go_quiet (fail)
    go_wp2_with fail
    go_ret2
    exact ⟨rfl, hb.trans ((Quiet.drewN _ _).below _)⟩
  by_cases h3 : d < 1
  · have d1 : decide (y < 1600) = false := by simp; omega
    have d2 : decide (9999 < y) = false := by simp; omega
    have d3 : decide (d < 1) = true := by simp; omega
    clear h
    go_enter Try.func20, Try.ntmps20
    go_wp2_with fail
    go_quiet (fail)
    go_wp2_with fail
    go_ret2
    exact ⟨rfl, hb.trans ((Quiet.drewN _ _).below _)⟩
  have d1 : decide (y < 1600) = false := by simp; omega
  have d2 : decide (9999 < y) = false := by simp; omega
  have d3 : decide (d < 1) = false := by simp; omega
  have h4 : Cal.len y m < d := by omega
  have d4 : decide (Cal.len y m < d) = true := by simp; omega
  clear h
  go_enter Try.func20, Try.ntmps20
  go_wp2_with fail
  go_quiet ((go_at_call 25; exact quiet_eq (refLength_any _ _ _)))
  go_wp2_with fail
  go_ret2
  exact ⟨rfl, hb.trans ((Quiet.drewN _ _).below _)⟩

set_option maxRecDepth 100000 in
set_option maxHeartbeats 1000000 in
theorem number_yes (y m d : Int) (w : World) (h : Cal.Ok 9999 y m d) : Calls Try.prog 14 #[.agg #[.int .i64 y, .int .i64 m, .int .i64 d]] w fun e w' => e = .returned (.tuple #[.int .i64 (Cal.num y m d), .int .i64 0]) ∧ Below w.heap.size w w' := by
  have hb := (Below.refl w.heap.size w).alloc (Nat.le_refl _) (.cells #[.int .i64 y, .int .i64 m, .int .i64 d] 27)
  have hyr := Cal.num_range ⟨h.1, h.2.1, (show (1 : Int) ≤ 1 by omega), (show (1 : Int) ≤ 12 by omega), (show (1 : Int) ≤ 1 by omega), (by have := Cal.len_lo (y := y) (m := 1) (by omega) (by omega); omega)⟩
  obtain ⟨h1, h2, h3, h4, h5, h6⟩ := h
  have hl := Cal.len_0 y m
  have n1 : -135140 ≤ Cal.ny y := by have := hyr.1; unfold Cal.num at this; rw [Cal.cum_1] at this; omega
  have n2 : Cal.ny y ≤ 2932896 := by have := hyr.2; unfold Cal.num at this; rw [Cal.cum_1] at this; omega
  have d1 : decide (y < 1600) = false := by simp; omega
  have d2 : decide (9999 < y) = false := by simp; omega
  have d3 : decide (d < 1) = false := by simp; omega
  have d4 : decide (Cal.len y m < d) = false := by simp; omega
  have d5 : d ≤ 31 := by omega
  clear hyr hl
  go_enter Try.func14, Try.ntmps14
  go_wp2_with fail
  go_quiet ((go_at_call 15; exact quiet_eq (length_any _ _ _)))
  go_wp2_with fail
  go_quiet ((go_at_call 37; exact quiet_add_eq (newYear_any _ h1 (by omega) _)))
  go_wp2_with fail
  simp only [World.drewN_drewN]
  go_loop [4, 5] (fun s i => ∃ k : Int, 1 ≤ k ∧ k ≤ m ∧ i = .int .i64 k ∧ s = .int .i64 (Cal.ny y + d - 1 + Cal.cum y k)) (fun _ i => (m - intOf i).toNat)
  case atStart => exact ⟨1, by omega, h3, rfl, by rw [Cal.cum_1, Int.add_zero]⟩
  case round =>
    obtain ⟨k, k1, k2, rfl, rfl⟩ := hrel
    have hc := Cal.cum_lo (y := y) k1 (by omega)
    have hl := Cal.len_0 y k
    obtain ⟨c1, c2⟩ := hc
    obtain ⟨l1, l2⟩ := hl
    by_cases hlt : k < m
    · have hs := Cal.cum_succ (y := y) k1 (show k ≤ 12 by omega)
      have HS := Lib.hid hs
      clear hs
      go_wp2_with fail
      refine (length_any y k _).mono ?_
      rintro e w' ⟨rfl, rfl⟩
      go_wp2_with fail
      go_round
      case rel => exact ⟨k + 1, by omega, by omega, rfl, by rw [HS.out, Int.add_assoc]⟩
      case measure => simp [intOf]; omega
    · obtain rfl : k = m := by omega
      have hn : Cal.num y k d = Cal.ny y + d - 1 + Cal.cum y k := by unfold Cal.num; omega
      have HN := Lib.hid hn
      clear hn
      go_wp2_with fail
      go_ret2
      rw [HN.out]
      exact ⟨rfl, hb.trans ((Quiet.drewN _ _).below _)⟩

set_option maxRecDepth 100000 in
set_option maxHeartbeats 1000000 in
theorem refNumber_yes (y m d : Int) (w : World) (h : Cal.Ok 9999 y m d) : Calls Try.prog 20 #[.agg #[.int .i64 y, .int .i64 m, .int .i64 d]] w fun e w' => e = .returned (.tuple #[.int .i64 (Cal.num y m d), .int .i64 0]) ∧ Below w.heap.size w w' := by
  have hb := (Below.refl w.heap.size w).alloc (Nat.le_refl _) (.cells #[.int .i64 y, .int .i64 m, .int .i64 d] 27)
  have hyr := Cal.num_range ⟨h.1, h.2.1, (show (1 : Int) ≤ 1 by omega), (show (1 : Int) ≤ 12 by omega), (show (1 : Int) ≤ 1 by omega), (by have := Cal.len_lo (y := y) (m := 1) (by omega) (by omega); omega)⟩
  obtain ⟨h1, h2, h3, h4, h5, h6⟩ := h
  have hl := Cal.len_0 y m
  have n1 : -135140 ≤ Cal.ny y := by have := hyr.1; unfold Cal.num at this; rw [Cal.cum_1] at this; omega
  have n2 : Cal.ny y ≤ 2932896 := by have := hyr.2; unfold Cal.num at this; rw [Cal.cum_1] at this; omega
  have d1 : decide (y < 1600) = false := by simp; omega
  have d2 : decide (9999 < y) = false := by simp; omega
  have d3 : decide (d < 1) = false := by simp; omega
  have d4 : decide (Cal.len y m < d) = false := by simp; omega
  have d5 : d ≤ 31 := by omega
  have hq := Cal.ny_400 ((y - 1600) / 400)
  have HQ := Lib.hid hq
  clear hyr hl hq
  go_enter Try.func20, Try.ntmps20
  go_wp2_with fail
  go_quiet ((go_at_call 25; exact quiet_eq (refLength_any _ _ _)))
  go_wp2_with fail
  go_loop [4, 5] (fun s i => ∃ k : Int, 1600 ≤ k ∧ k ≤ y ∧ i = .int .i64 k ∧ s = .int .i64 (Cal.ny k)) (fun _ i => (y - intOf i).toNat)
  case atStart => exact ⟨1600 + (y - 1600) / 400 * 400, by omega, by omega, rfl, by rw [HQ.out]⟩
  case round =>
    clear HQ
    obtain ⟨k, k1, k2, rfl, rfl⟩ := hrel
    have hle := Cal.ny_le (y := k) (y - k).toNat
    have hle0 := Cal.ny_le (y := 1600) (k - 1600).toNat
    rw [show k + ((y - k).toNat : Int) = y from by omega] at hle
    rw [show 1600 + ((k - 1600).toNat : Int) = k from by omega, Cal.ny_first] at hle0
    by_cases hlt : k < y
    · have hs := Cal.ny_succ k
      have hlb := Cal.lb_01 k
      rw [← Int.sub_nonneg] at hlb
      have hy2 := Cal.ylen_lb k
      have y1 : 365 ≤ Cal.ylen k := by omega
      have y2 : Cal.ylen k ≤ 366 := by omega
      have HS := Lib.hid hs
      clear hs hy2 hlb
      go_wp2_with fail
      refine (years_any k _).mono ?_
      rintro e w' ⟨rfl, rfl⟩
      go_wp2_with fail
      go_round
      case rel => exact ⟨k + 1, by omega, by omega, rfl, by rw [HS.out]⟩
      case measure => simp [intOf]; omega
    · obtain rfl : k = y := by omega
      go_wp2_with fail
      go_loop [4, 6] (fun s i => ∃ j : Int, 1 ≤ j ∧ j ≤ m ∧ i = .int .i64 j ∧ s = .int .i64 (Cal.ny k + Cal.cum k j)) (fun _ i => (m - intOf i).toNat)
      case atStart => exact ⟨1, by omega, h3, rfl, by rw [Cal.cum_1, Int.add_zero]⟩
      case round =>
        obtain ⟨j, j1, j2, rfl, rfl⟩ := hrel
        have hc := Cal.cum_lo (y := k) j1 (by omega)
        have hl := Cal.len_0 k j
        obtain ⟨c1, c2⟩ := hc
        obtain ⟨l1, l2⟩ := hl
        by_cases hlt : j < m
        · have hs := Cal.cum_succ (y := k) j1 (show j ≤ 12 by omega)
          have HS := Lib.hid hs
          clear hs
          go_wp2_with fail
          refine (refLength_any k j _).mono ?_
          rintro e w' ⟨rfl, rfl⟩
          go_wp2_with fail
          go_round
          case rel => exact ⟨j + 1, by omega, by omega, rfl, by rw [HS.out, Int.add_assoc]⟩
          case measure => simp [intOf]; omega
        · obtain rfl : j = m := by omega
          go_wp2_with fail
          go_ret2
          exact ⟨rfl, hb.trans ((Quiet.drewN _ _).below _)⟩

theorem number_any (y m d : Int) (w : World) : Calls Try.prog 14 #[.agg #[.int .i64 y, .int .i64 m, .int .i64 d]] w fun e w' => e = .returned (.tuple #[.int .i64 (Cal.numR y m d).1, .int .i64 (Cal.numR y m d).2]) ∧ Below w.heap.size w w' := by
  by_cases h : 1600 ≤ y ∧ y ≤ 9999 ∧ 1 ≤ d ∧ d ≤ Cal.len y m
  · rw [Cal.numR_ok (Cal.ok_of h)]
    exact number_yes y m d w (Cal.ok_of h)
  · rw [Cal.numR_not h]
    exact number_no y m d w h
theorem refNumber_any (y m d : Int) (w : World) : Calls Try.prog 20 #[.agg #[.int .i64 y, .int .i64 m, .int .i64 d]] w fun e w' => e = .returned (.tuple #[.int .i64 (Cal.numR y m d).1, .int .i64 (Cal.numR y m d).2]) ∧ Below w.heap.size w w' := by
  by_cases h : 1600 ≤ y ∧ y ≤ 9999 ∧ 1 ≤ d ∧ d ≤ Cal.len y m
  · rw [Cal.numR_ok (Cal.ok_of h)]
    exact refNumber_yes y m d w (Cal.ok_of h)
  · rw [Cal.numR_not h]
    exact refNumber_no y m d w h
end Go.Proofs.Ytbkbeblogfakjaa
