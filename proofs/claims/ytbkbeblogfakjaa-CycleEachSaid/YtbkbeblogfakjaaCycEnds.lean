/- The contracts of the cycles' law's awake and near, and the walk of the law CycleEnds. -/
import Derived.Test.YtbkbeblogfakjaaCycLast
import Derived.OpenShut
namespace Go.Proofs.Ytbkbeblogfakjaa
open Go.RowKit
set_option linter.unusedVariables false
set_option linter.unusedSimpArgs false

theorem Cal.last_awake : Cal.lastR 10957 1 = (10987, 0) := by
  have hd : Cal.dateF 10957 = (2000, 1, 1) := Cal.dateF_eq ⟨by omega, by omega, by omega, by omega, by omega, by decide⟩ (by decide)
  have hl : Cal.len 2000 1 = 31 := by decide
  have hv : Cal.lastV 10957 1 = 10987 := by unfold Cal.lastV; rw [hd]; dsimp only; rw [hl]; decide
  rw [Cal.lastR_ok (by omega) (by omega) (by omega), hv]
theorem Cal.last_behind : Cal.lastR 2932897 1 = (0, 10) := Cal.lastR_out (by omega) (by omega)
theorem Cal.last_ahead : Cal.lastR (-135141) 1 = (0, 10) := Cal.lastR_out (by omega) (by omega)

set_option maxRecDepth 100000 in
set_option maxHeartbeats 1000000 in
theorem awake03 (w : World) : Calls Try.prog 28 #[] w fun e w' => e = .returned (.bool true) ∧ Below w.heap.size w w' := by
  go_enter Try.func28, Try.ntmps28
  go_wp2_with fail
  refine (last_any _ _ _).mono ?_
  rintro e v1 ⟨rfl, hb1⟩
  rw [Cal.last_awake]
  go_wp2_with fail
  go_ret
  exact ⟨rfl, hb1⟩

/-- The number of a day brought near. -/
def Cal.near (n : Int) : Int := if -135140 ≤ n ∧ n ≤ 2932896 then 10957 + IntKind.u64.wrap n % 20000 else n
theorem Cal.near_in {n : Int} (h : -135140 ≤ n ∧ n ≤ 2932896) : 10957 ≤ Cal.near n ∧ Cal.near n < 30957 := by
  unfold Cal.near; rw [if_pos h]
  have h1 := Int.emod_nonneg (IntKind.u64.wrap n) (show (20000 : Int) ≠ 0 by omega)
  have h2 := Int.emod_lt_of_pos (IntKind.u64.wrap n) (show (0 : Int) < 20000 by omega)
  omega
theorem Cal.near_out {n : Int} (h : ¬ (-135140 ≤ n ∧ n ≤ 2932896)) : Cal.near n = n := by
  unfold Cal.near; rw [if_neg h]

set_option maxRecDepth 100000 in
set_option maxHeartbeats 1000000 in
theorem near_any (n : Int) (w : World) (w0 : (Lit.int .i64 n).wf = true) : Calls Try.prog 30 #[.int .i64 n] w fun e w' => e = .returned (.int .i64 (Cal.near n)) ∧ w = w' := by
  obtain ⟨p0, p1⟩ := bounds_i64 w0
  obtain ⟨u, r, hu, u0, u1, hr, r1⟩ := u64_rest n 20000 (by omega)
  by_cases h1 : -135140 ≤ n
  · by_cases h2 : n ≤ 2932896
    · have d1 : decide (-135140 ≤ n) = true := by simp; omega
      have d2 : decide (n ≤ 2932896) = true := by simp; omega
      have e : Cal.near n = 10957 + r := by unfold Cal.near; rw [if_pos ⟨h1, h2⟩, hu, hr]
      rw [e]
      clear e
      go_enter Try.func30, Try.ntmps30
      go_wp2_with fail
      go_ret
      exact ⟨rfl, rfl⟩
    · have d1 : decide (-135140 ≤ n) = true := by simp; omega
      have d2 : decide (n ≤ 2932896) = false := by simp; omega
      rw [Cal.near_out (by omega)]
      go_enter Try.func30, Try.ntmps30
      go_wp2_with fail
      go_ret
      exact ⟨rfl, rfl⟩
  · have d1 : decide (-135140 ≤ n) = false := by simp; omega
    rw [Cal.near_out (by omega)]
    go_enter Try.func30, Try.ntmps30
    go_wp2_with fail
    go_ret
    exact ⟨rfl, rfl⟩

set_option maxRecDepth 100000 in
set_option maxHeartbeats 1000000 in
theorem cycleEnds_walk (a0 a1 : Int) (w : World) (w0 : (Lit.int .i64 a0).wf = true) (w1 : (Lit.int .i64 a1).wf = true) : Calls Try.prog 9 #[.int .i64 a0, .int .i64 a1] w fun e w' => e = .returned (.bool true) ∧ Below w.heap.size w w' := by
  obtain ⟨p0, p1⟩ := bounds_i64 w0
  obtain ⟨q0, q1⟩ := bounds_i64 w1
  obtain ⟨u, r, hu, u0, u1, hr, r1⟩ := u64_rest a0 70 (by omega)
  obtain ⟨v, s, hv, v0, v1, hs, s1⟩ := u64_rest a1 31 (by omega)
  generalize hd : Cal.lastR (2932896 - (r : Int)) (s : Int) = D
  obtain ⟨l, e⟩ := D
  have HD := Lib.hid hd
  clear hd
  have x1 : (l == l) = true := by simp
  have x2 : (e == e) = true := by simp
  go_enter Try.func9, Try.ntmps9
  go_wp2_with fail
  refine (last_any _ _ _).mono ?_
  rintro e v1 ⟨rfl, hb1⟩
  rw [HD.out]
  go_wp2_with fail
  refine (refLast_any _ _ _).mono ?_
  rintro e v2 ⟨rfl, hb2⟩
  rw [HD.out]
  have hb2 := hb1.trans (hb2.mono hb1.size)
  clear hb1
  go_wp2_with fail
  refine (last_any _ _ _).mono ?_
  rintro e v3 ⟨rfl, hb3⟩
  rw [Cal.last_behind]
  have hb3 := hb2.trans (hb3.mono hb2.size)
  clear hb2
  go_wp2_with fail
  refine (last_any _ _ _).mono ?_
  rintro e v4 ⟨rfl, hb4⟩
  rw [Cal.last_ahead]
  have hb4 := hb3.trans (hb4.mono hb3.size)
  clear hb3
  go_wp2_with fail
  refine (awake03 _).mono ?_
  rintro e v5 ⟨rfl, hb5⟩
  have hb5 := hb4.trans (hb5.mono hb4.size)
  clear hb4
  go_wp2_with fail
  go_ret
  exact ⟨rfl, hb5⟩
end Go.Proofs.Ytbkbeblogfakjaa
