/- The contracts of day.Leap, Length, newYear, Weekday and of the document's: each computes what the plain arithmetic says, and leaves the world as it is. -/
import Derived.Test.YtbkbeblogfakjaaProg
import Derived.Test.YtbkbeblogfakjaaLib
import Derived.Test.YtbkbeblogfakjaaCal
import Derived.WalkSpells
namespace Go.Proofs.Ytbkbeblogfakjaa
open Go.RowKit
set_option linter.unusedVariables false
set_option linter.unusedSimpArgs false

theorem tmod_zero (y k : Int) : (y.tmod k == 0) = decide (y % k = 0) := by
  have h : y.tmod k = 0 ↔ y % k = 0 := by rw [← Int.dvd_iff_tmod_eq_zero, ← Int.dvd_iff_emod_eq_zero]
  by_cases h1 : y % k = 0
  · simp [h1, h.2 h1]
  · have h2 : ¬ y.tmod k = 0 := fun e => h1 (h.1 e)
    simp [h1, h2]
theorem tmod_nzero (y k : Int) : (y.tmod k != 0) = !decide (y % k = 0) := by
  rw [← tmod_zero]
  rfl
theorem lp_of (y : Int) (a b c : Bool) (h1 : decide (y % 4 = 0) = a) (h2 : decide (y % 100 = 0) = b) (h3 : decide (y % 400 = 0) = c) : Cal.lp y = (a && (!b || c)) := by
  unfold Cal.lp
  subst h1 h2 h3
  simp [Bool.decide_and, Bool.decide_or]

set_option maxRecDepth 100000 in
theorem leap_any (y : Int) (w : World) : Calls Try.prog 23 #[.int .i64 y] w fun e w' => e = .returned (.bool (Cal.lp y)) ∧ w = w' := by
  have h1 := tmod_zero y 4
  have h2 := tmod_nzero y 100
  have h3 := tmod_zero y 400
  have hl := lp_of y _ _ _ rfl rfl rfl
  generalize decide (y % 4 = 0) = a at *
  generalize decide (y % 100 = 0) = b at *
  generalize decide (y % 400 = 0) = c at *
  rw [hl]
  clear hl
  cases a <;> cases b <;> cases c
  all_goals
    simp only [Bool.not_true, Bool.not_false, Bool.and_true, Bool.and_false, Bool.true_and, Bool.false_and, Bool.or_true, Bool.or_false, Bool.true_or, Bool.false_or] at *
    go_enter Try.func23, Try.ntmps23
    go_wp2
    go_ret
    exact ⟨rfl, rfl⟩

set_option maxRecDepth 100000 in
theorem refLeap_any (y : Int) (w : World) : Calls Try.prog 24 #[.int .i64 y] w fun e w' => e = .returned (.bool (Cal.lp y)) ∧ w = w' := by
  have h1 := tmod_zero y 4
  have h2 := tmod_nzero y 100
  have h3 := tmod_zero y 400
  have hl := lp_of y _ _ _ rfl rfl rfl
  generalize decide (y % 4 = 0) = a at *
  generalize decide (y % 100 = 0) = b at *
  generalize decide (y % 400 = 0) = c at *
  rw [hl]
  clear hl
  cases a <;> cases b <;> cases c
  all_goals
    simp only [Bool.not_true, Bool.not_false, Bool.and_true, Bool.and_false, Bool.true_and, Bool.false_and, Bool.or_true, Bool.or_false, Bool.true_or, Bool.false_or] at *
    go_enter Try.func24, Try.ntmps24
    go_wp2
    go_ret
    exact ⟨rfl, rfl⟩

set_option maxRecDepth 100000 in
set_option maxHeartbeats 1000000 in
theorem length_any (y m : Int) (w : World) : Calls Try.prog 15 #[.int .i64 y, .int .i64 m] w fun e w' => e = .returned (.int .i64 (Cal.len y m)) ∧ w = w' := by
  by_cases h2 : m = 2
  · subst h2
    cases hl : Cal.lp y
    all_goals
      have hle : Cal.len y 2 = (if Cal.lp y = true then 29 else 28) := rfl
      rw [hl] at hle
      have HLE := Lib.hid hle
      have HL := Lib.hid hl
      clear hle hl
      go_enter Try.func15, Try.ntmps15
      go_wp2_with fail
      refine (leap_any y _).mono ?_
      rintro e w' ⟨rfl, rfl⟩
      rw [HL.out]
      go_wp2_with fail
      go_ret
      exact ⟨by rw [HLE.out]; rfl, rfl⟩
  by_cases h : m = 1 ∨ m = 3 ∨ m = 5 ∨ m = 7 ∨ m = 8 ∨ m = 10 ∨ m = 12 ∨ m = 4 ∨ m = 6 ∨ m = 9 ∨ m = 11
  · clear h2
    rcases h with rfl | rfl | rfl | rfl | rfl | rfl | rfl | rfl | rfl | rfl | rfl
    all_goals
      go_enter Try.func15, Try.ntmps15
      go_wp2_with fail
      go_ret
      exact ⟨rfl, rfl⟩
  · have hle : Cal.len y m = 0 := Cal.len_out (by omega)
    have HLE := Lib.hid hle
    have e1 : (m == 1) = false := by simp; omega
    have e2 : (m == 2) = false := by simp; omega
    have e3 : (m == 3) = false := by simp; omega
    have e4 : (m == 4) = false := by simp; omega
    have e5 : (m == 5) = false := by simp; omega
    have e6 : (m == 6) = false := by simp; omega
    have e7 : (m == 7) = false := by simp; omega
    have e8 : (m == 8) = false := by simp; omega
    have e9 : (m == 9) = false := by simp; omega
    have e10 : (m == 10) = false := by simp; omega
    have e11 : (m == 11) = false := by simp; omega
    have e12 : (m == 12) = false := by simp; omega
    clear hle h h2
    go_enter Try.func15, Try.ntmps15
    go_wp2_with fail
    go_ret
    exact ⟨by rw [HLE.out]; rfl, rfl⟩

set_option maxRecDepth 100000 in
set_option maxHeartbeats 1000000 in
theorem refLength_any (y m : Int) (w : World) : Calls Try.prog 25 #[.int .i64 y, .int .i64 m] w fun e w' => e = .returned (.int .i64 (Cal.len y m)) ∧ w = w' := by
  by_cases h2 : m = 2
  · subst h2
    cases hl : Cal.lp y
    all_goals
      have hle : Cal.len y 2 = (if Cal.lp y = true then 29 else 28) := rfl
      rw [hl] at hle
      have HLE := Lib.hid hle
      have HL := Lib.hid hl
      clear hle hl
      go_enter Try.func25, Try.ntmps25
      go_wp2_with fail
      refine (refLeap_any y _).mono ?_
      rintro e w' ⟨rfl, rfl⟩
      rw [HL.out]
      go_wp2_with fail
      go_ret
      exact ⟨by rw [HLE.out]; rfl, rfl⟩
  by_cases h : m = 1 ∨ m = 3 ∨ m = 5 ∨ m = 7 ∨ m = 8 ∨ m = 10 ∨ m = 12 ∨ m = 4 ∨ m = 6 ∨ m = 9 ∨ m = 11
  · clear h2
    rcases h with rfl | rfl | rfl | rfl | rfl | rfl | rfl | rfl | rfl | rfl | rfl
    all_goals
      go_enter Try.func25, Try.ntmps25
      go_wp2_with fail
      go_ret
      exact ⟨rfl, rfl⟩
  · have hle : Cal.len y m = 0 := Cal.len_out (by omega)
    have HLE := Lib.hid hle
    have e1 : (m == 1) = false := by simp; omega
    have e2 : (m == 2) = false := by simp; omega
    have e3 : (m == 3) = false := by simp; omega
    have e4 : (m == 4) = false := by simp; omega
    have e5 : (m == 5) = false := by simp; omega
    have e6 : (m == 6) = false := by simp; omega
    have e7 : (m == 7) = false := by simp; omega
    have e8 : (m == 8) = false := by simp; omega
    have e9 : (m == 9) = false := by simp; omega
    have e10 : (m == 10) = false := by simp; omega
    have e11 : (m == 11) = false := by simp; omega
    have e12 : (m == 12) = false := by simp; omega
    clear hle h h2
    go_enter Try.func25, Try.ntmps25
    go_wp2_with fail
    go_ret
    exact ⟨by rw [HLE.out]; rfl, rfl⟩

set_option maxRecDepth 100000 in
theorem newYear_any (y : Int) (h1 : 1600 ≤ y) (h2 : y ≤ 20000) (w : World) : Calls Try.prog 37 #[.int .i64 y] w fun e w' => e = .returned (.int .i64 (Cal.ny y)) ∧ w = w' := by
  go_enter Try.func37, Try.ntmps37
  go_wp2
  go_ret
  exact ⟨rfl, rfl⟩
theorem years_any (y : Int) (w : World) : Calls Try.prog 38 #[.int .i64 y] w fun e w' => e = .returned (.int .i64 (Cal.ylen y)) ∧ w = w' := by
  cases hl : Cal.lp y
  all_goals
    have hle : Cal.ylen y = (if Cal.lp y = true then 366 else 365) := rfl
    rw [hl] at hle
    have HLE := Lib.hid hle
    have HL := Lib.hid hl
    clear hle hl
    go_enter Try.func38, Try.ntmps38
    go_wp2_with fail
    refine (refLeap_any y _).mono ?_
    rintro e w' ⟨rfl, rfl⟩
    rw [HL.out]
    go_wp2_with fail
    go_ret
    exact ⟨by rw [HLE.out]; rfl, rfl⟩
theorem weekday_any (n : Int) (w : World) : Calls Try.prog 17 #[.int .i64 n] w fun e w' => e = .returned (.int .i64 (Cal.wday n)) ∧ w = w' := by
  obtain ⟨r, q, h1, h2, h3, h4⟩ := Cal.tmod7 n
  have hw : Cal.wday n = (r + 11) % 7 := by unfold Cal.wday; rw [h1]
  have HW := Lib.hid hw
  clear hw h2
  go_enter Try.func17, Try.ntmps17
  go_wp2
  go_ret
  exact ⟨by rw [HW.out]; rfl, rfl⟩
theorem refWeekday_any (n : Int) (w : World) : Calls Try.prog 22 #[.int .i64 n] w fun e w' => e = .returned (.int .i64 (Cal.wday n)) ∧ w = w' := by
  obtain ⟨r, q, h1, h2, h3, h4⟩ := Cal.tmod7 n
  obtain ⟨r', q', h1', h2', h3', h4'⟩ := Cal.tmod7 (r + 4)
  have hw : Cal.wday n = (r' + 7) % 7 := by unfold Cal.wday; rw [h1]; omega
  have HW := Lib.hid hw
  clear hw h2 h2'
  go_enter Try.func22, Try.ntmps22
  go_wp2
  go_ret
  exact ⟨by rw [HW.out]; rfl, rfl⟩
end Go.Proofs.Ytbkbeblogfakjaa
