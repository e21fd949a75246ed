/- The walks of the laws DayYears, DayMonths and DayWeeks: each returns true, and turns nothing that was there. -/
import Derived.Test.YtbkbeblogfakjaaDayRef
import Derived.OpenShut
namespace Go.Proofs.Ytbkbeblogfakjaa
open Go.RowKit
set_option linter.unusedVariables false
set_option linter.unusedSimpArgs false

theorem num_first {y : Int} (h1 : 1600 ≤ y) (h2 : y ≤ 9999) : Cal.numR y 1 1 = (Cal.ny y, 0) := by
  have hl := Cal.len_lo (y := y) (m := 1) (by omega) (by omega)
  rw [Cal.numR_ok ⟨h1, h2, by omega, by omega, by omega, by omega⟩]
  unfold Cal.num
  rw [Cal.cum_1]
  simp
theorem ny_bounds {y : Int} (h1 : 1600 ≤ y) (h2 : y ≤ 9999) : -135140 ≤ Cal.ny y ∧ Cal.ny y ≤ 2932896 := by
  have hl := Cal.len_lo (y := y) (m := 1) (by omega) (by omega)
  have := Cal.num_range (y := y) (m := 1) (d := 1) ⟨h1, h2, by omega, by omega, by omega, by omega⟩
  unfold Cal.num at this
  rw [Cal.cum_1] at this
  omega

set_option maxRecDepth 100000 in
set_option maxHeartbeats 4000000 in
theorem dayYears_walk (a0 : Int) (w : World) (w0 : (Lit.int .i64 a0).wf = true) : Calls Try.prog 3 #[.int .i64 a0] w fun e w' => e = .returned (.bool true) ∧ Below w.heap.size w w' := by
  obtain ⟨u, k, hu, hu0, hu1, huk, hk⟩ := u64_rest a0 8000 (by omega)
  obtain ⟨Y, hY⟩ : ∃ Y : Int, 1600 + (k : Int) = Y := ⟨_, rfl⟩
  have y1 : 1600 ≤ Y := by omega
  have y2 : Y ≤ 9599 := by omega
  obtain ⟨n1, n2⟩ := ny_bounds y1 (show Y ≤ 9999 by omega)
  have q1 := num_first y1 (show Y ≤ 9999 by omega)
  have q2 := num_first (y := Y + 1) (by omega) (by omega)
  have q3 := num_first (y := Y + 400) (by omega) (by omega)
  have s2 := Cal.ny_succ Y
  have s3 : Cal.ny (Y + 400) = Cal.ny Y + 146097 := by unfold Cal.ny; omega
  rw [s2] at q2
  rw [s3] at q3
  have hlp := lp_of Y _ _ _ rfl rfl rfl
  have hyl : Cal.ylen Y = if Cal.lp Y = true then 366 else 365 := rfl
  have h4 : (Y % 4 == 0) = decide (Y % 4 = 0) := rfl
  have h100 : (Y % 100 != 0) = !decide (Y % 100 = 0) := rfl
  have h400 : (Y % 400 == 0) = decide (Y % 400 = 0) := rfl
  have hc13 := Cal.cum_13 Y
  have l0 : Cal.len Y 0 = 0 := Cal.len_out (by omega)
  have l13 : Cal.len Y 13 = 0 := Cal.len_out (by omega)
  rw [hyl] at q2 hc13
  rw [hlp] at q2 hc13
  generalize decide (Y % 4 = 0) = a at *
  generalize decide (Y % 100 = 0) = b at *
  generalize decide (Y % 400 = 0) = c at *
  generalize hN : Cal.ny Y = N at *
  have Q1 := Lib.hid q1
  have Q2 := Lib.hid q2
  have Q3 := Lib.hid q3
  have C13 := Lib.hid hc13
  have L0 := Lib.hid l0
  have L13 := Lib.hid l13
  clear q1 q2 q3 s2 s3 hlp hyl hc13 l0 l13 hN
  cases a <;> cases b <;> cases c
  all_goals
    simp only [Bool.not_true, Bool.not_false, Bool.and_true, Bool.and_false, Bool.true_and, Bool.false_and, Bool.or_true, Bool.or_false, Bool.true_or, Bool.false_or, if_true, if_false, Bool.false_eq_true] at h4 h100 h400 Q2 C13
    go_enter Try.func3, Try.ntmps3
    go_wp2_with fail
    refine (number_any _ 1 1 _).mono ?_
    rintro e v1 ⟨rfl, hb1⟩
    rw [Q1.out]
    go_wp2_with fail
    refine (number_any _ 1 1 _).mono ?_
    rintro e v2 ⟨rfl, hb2⟩
    rw [Q2.out]
    have hb2' := hb1.trans (hb2.mono hb1.size)
    clear hb1 hb2
    go_wp2_with fail
    refine (number_any _ 1 1 _).mono ?_
    rintro e v3 ⟨rfl, hb3⟩
    rw [Q3.out]
    have hb3' := hb2'.trans (hb3.mono hb2'.size)
    clear hb2' hb3
    go_wp2_with fail
    go_loop [10, 11] (fun s i => ∃ m : Int, 1 ≤ m ∧ m ≤ 13 ∧ i = .int .i64 m ∧ s = .int .i64 (Cal.cum Y m)) (fun _ i => (13 - intOf i).toNat)
    case atStart => exact ⟨1, by omega, by omega, rfl, rfl⟩
    case round =>
      obtain ⟨m, m1, m2, rfl, rfl⟩ := hrel
      obtain ⟨e1, e2⟩ := Cal.cum_lo (y := Y) m1 m2
      by_cases hlt : m ≤ 12
      · have hs := Cal.cum_succ (y := Y) m1 hlt
        obtain ⟨e3, e4⟩ := Cal.len_0 Y m
        have HS := Lib.hid hs
        clear hs
        go_wp2_with fail
        refine (length_any Y m _).mono ?_
        rintro e w' ⟨rfl, rfl⟩
        go_wp2_with fail
        go_round
        case rel => exact ⟨m + 1, by omega, by omega, rfl, by rw [HS.out]⟩
        case measure => simp [intOf]; omega
      · obtain rfl : m = 13 := by omega
        rw [C13.out] at e1 e2 ⊢
        go_wp2_with fail
        refine (awake02 _).mono ?_
        rintro e v4 ⟨rfl, hb4⟩
        go_wp2_with fail
        refine (length_any Y 0 _).mono ?_
        rintro e w' ⟨rfl, rfl⟩
        rw [L0.out]
        go_wp2_with fail
        refine (length_any Y 13 _).mono ?_
        rintro e w' ⟨rfl, rfl⟩
        rw [L13.out]
        go_wp2_with fail
        go_ret
        exact ⟨rfl, hb3'.trans (hb4.mono hb3'.size)⟩

set_option maxRecDepth 100000 in
set_option maxHeartbeats 1000000 in
theorem dayWeeks_walk (a0 : Int) (w : World) (w0 : (Lit.int .i64 a0).wf = true) : Calls Try.prog 5 #[.int .i64 a0] w fun e w' => e = .returned (.bool true) ∧ Below w.heap.size w w' := by
  obtain ⟨p0, p1⟩ := bounds_i64 w0
  obtain ⟨V, hV⟩ : ∃ V : Int, Cal.wday a0 = V := ⟨_, rfl⟩
  have hVm := Cal.wday_mod a0
  have v0 : 0 ≤ V ∧ V ≤ 6 := by omega
  have q1 : Cal.wday (a0 + 7) = V := by have := Cal.wday_mod (a0 + 7); omega
  have q2 : Cal.wday (a0 - 7) = V := by have := Cal.wday_mod (a0 - 7); omega
  have q3 : Cal.wday (a0 + 1) = (V + 1) % 7 := by have := Cal.wday_mod (a0 + 1); omega
  have q4 : Cal.wday 0 = 4 := by decide
  obtain ⟨v1, v2⟩ := v0
  have HV := Lib.hid hV
  have Q1 := Lib.hid q1
  have Q2 := Lib.hid q2
  have Q3 := Lib.hid q3
  have Q4 := Lib.hid q4
  clear hV hVm q1 q2 q3 q4
  by_cases hbig : 1152921504606846976 < a0 ∨ a0 < -1152921504606846976
  · have hbg := hbig
    by_cases h1 : 1152921504606846976 < a0
    · have d1 : decide (1152921504606846976 < a0) = true := by simp; omega
      clear hbig hbg
      go_enter Try.func5, Try.ntmps5
      go_wp2_with fail
      refine (weekday_any a0 _).mono ?_
      rintro e w' ⟨rfl, rfl⟩
      rw [HV.out]
      go_wp2_with fail
      refine (awake02 _).mono ?_
      rintro e w' ⟨rfl, hb⟩
      go_wp2_with fail
      go_ret
      exact ⟨rfl, hb⟩
    · have d1 : decide (1152921504606846976 < a0) = false := by simp; omega
      have d2 : decide (a0 < -1152921504606846976) = true := by simp; omega
      clear hbig hbg
      go_enter Try.func5, Try.ntmps5
      go_wp2_with fail
      refine (weekday_any a0 _).mono ?_
      rintro e w' ⟨rfl, rfl⟩
      rw [HV.out]
      go_wp2_with fail
      refine (awake02 _).mono ?_
      rintro e w' ⟨rfl, hb⟩
      go_wp2_with fail
      go_ret
      exact ⟨rfl, hb⟩
  · have d1 : decide (1152921504606846976 < a0) = false := by simp; omega
    have d2 : decide (a0 < -1152921504606846976) = false := by simp; omega
    have b1 : a0 ≤ 1152921504606846976 := by omega
    have b2 : -1152921504606846976 ≤ a0 := by omega
    clear hbig
    go_enter Try.func5, Try.ntmps5
    go_wp2_with fail
    refine (weekday_any a0 _).mono ?_
    rintro e w' ⟨rfl, rfl⟩
    rw [HV.out]
    go_wp2_with fail
    refine (awake02 _).mono ?_
    rintro e v1 ⟨rfl, hb⟩
    go_wp2_with fail
    refine (weekday_any _ _).mono ?_
    rintro e w' ⟨rfl, rfl⟩
    rw [Q1.out]
    go_wp2_with fail
    refine (weekday_any _ _).mono ?_
    rintro e w' ⟨rfl, rfl⟩
    rw [Q2.out]
    go_wp2_with fail
    refine (weekday_any _ _).mono ?_
    rintro e w' ⟨rfl, rfl⟩
    rw [Q3.out]
    go_wp2_with fail
    refine (weekday_any _ _).mono ?_
    rintro e w' ⟨rfl, rfl⟩
    rw [Q4.out]
    go_wp2_with fail
    go_ret
    exact ⟨rfl, hb⟩
end Go.Proofs.Ytbkbeblogfakjaa
