/- The contract of the document's Date (lombardref02): it answers the one date of a number, or refuses. What lombardlaw02.within and awake return. -/
import Derived.Test.YtbkbeblogfakjaaDayNum
namespace Go.Proofs.Ytbkbeblogfakjaa
open Go.RowKit
set_option linter.unusedVariables false
set_option linter.unusedSimpArgs false

set_option maxRecDepth 100000 in
set_option maxHeartbeats 1000000 in
theorem refDate_no (n : Int) (w : World) (h : ¬ (-135140 ≤ n ∧ n ≤ 2932896)) : Calls Try.prog 21 #[.int .i64 n] w fun e w' => e = .returned (.tuple #[.agg #[.int .i64 0, .int .i64 0, .int .i64 0], .int .i64 10]) ∧ Below w.heap.size w w' := by
  by_cases h1 : n < -135140
  · have d1 : decide (n < -135140) = true := by simp; omega
    clear h
    go_enter Try.func21, Try.ntmps21
    go_wp2_with fail
    refine bodyPost_ret (v := .tuple #[.agg #[.int .i64 0, .int .i64 0, .int .i64 0], .int .i64 10]) (by simp [results, Try.results21, go_sem]) rfl ⟨rfl, ?_⟩
    exact (Below.refl _ _).alloc (Nat.le_refl _) _
  · have d1 : decide (n < -135140) = false := by simp; omega
    have d2 : decide (2932896 < n) = true := by simp; omega
    clear h
    go_enter Try.func21, Try.ntmps21
    go_wp2_with fail
    refine bodyPost_ret (v := .tuple #[.agg #[.int .i64 0, .int .i64 0, .int .i64 0], .int .i64 10]) (by simp [results, Try.results21, go_sem]) rfl ⟨rfl, ?_⟩
    exact (Below.refl _ _).alloc (Nat.le_refl _) _

set_option maxRecDepth 100000 in
set_option maxHeartbeats 4000000 in
theorem refDate_yes (n : Int) (w : World) (hn1 : -135140 ≤ n) (hn2 : n ≤ 2932896) : Calls Try.prog 21 #[.int .i64 n] w fun e w' => e = .returned (.tuple #[.agg #[.int .i64 (Cal.dateF n).1, .int .i64 (Cal.dateF n).2.1, .int .i64 (Cal.dateF n).2.2], .int .i64 0]) ∧ Below w.heap.size w w' := by
  have d1 : decide (n < -135140) = false := by simp; omega
  have d2 : decide (2932896 < n) = false := by simp; omega
  have hq := Cal.ny_400 ((n + 135140) / 146097)
  have hq0 : Cal.ny (1600 + (n + 135140) / 146097 * 400) + (n + 135140) % 146097 = n := by rw [hq]; omega
  have HQ := Lib.hid hq0
  have hy0 : 1600 ≤ 1600 + (n + 135140) / 146097 * 400 ∧ 1600 + (n + 135140) / 146097 * 400 ≤ 9999 := by omega
  have HY := Lib.hid hy0
  clear hq hq0 hy0
  go_enter Try.func21, Try.ntmps21
  go_wp2_with fail
  go_loop [4, 5] (fun s i => ∃ y left : Int, 1600 ≤ y ∧ y ≤ 9999 ∧ 0 ≤ left ∧ left ≤ 146097 ∧ i = .int .i64 y ∧ s = .int .i64 left ∧ Cal.ny y + left = n) (fun s _ => (intOf s).toNat)
  case atStart => exact ⟨1600 + (n + 135140) / 146097 * 400, (n + 135140) % 146097, HY.out.1, HY.out.2, by omega, by omega, rfl, rfl, HQ.out⟩
  case round =>
    clear HQ HY
    obtain ⟨y, left, y1, y2, l1, l2, rfl, rfl, hny⟩ := hrel
    have hs := Cal.ny_succ y
    have hlb := Cal.lb_01 y
    have hyl := Cal.ylen_lb y
    have hy3 : Cal.ylen y ≤ left → y + 1 ≤ 9999 := by
      intro hle
      by_cases h : y + 1 ≤ 9999
      · exact h
      · obtain rfl : y = 9999 := by omega
        have : Cal.ny (9999 + 1) = 2932897 := Cal.ny_end
        omega
    have b1 : 365 ≤ Cal.ylen y := by omega
    have b2 : Cal.ylen y ≤ 366 := by omega
    have HS := Lib.hid hs
    have HN := Lib.hid hny
    have H3 := Lib.hid hy3
    clear hs hlb hyl hny hy3
    by_cases hge : Cal.ylen y ≤ left
    · go_wp2_with fail
      refine (years_any y _).mono ?_
      rintro e w' ⟨rfl, rfl⟩
      go_wp2_with fail
      refine (years_any y _).mono ?_
      rintro e w' ⟨rfl, rfl⟩
      go_wp2_with fail
      go_round
      case rel => exact ⟨y + 1, left - Cal.ylen y, by omega, H3.out hge, by omega, by omega, rfl, rfl, by rw [HS.out]; have := HN.out; omega⟩
      case measure => simp [intOf]; omega
    · go_wp2_with fail
      refine (years_any y _).mono ?_
      rintro e w' ⟨rfl, rfl⟩
      go_wp2_with fail
      clear HS H3
      go_loop [4, 6] (fun s i => ∃ m l : Int, 1 ≤ m ∧ m ≤ 12 ∧ 0 ≤ l ∧ l ≤ 146097 ∧ i = .int .i64 m ∧ s = .int .i64 l ∧ Cal.cum y m + l = left) (fun s _ => (intOf s).toNat)
      case atStart => exact ⟨1, left, by omega, by omega, l1, l2, rfl, rfl, by rw [Cal.cum_1, Int.zero_add]⟩
      case round =>
        obtain ⟨m, l, m1, m2, z1, z2, rfl, rfl, hcm⟩ := hrel
        obtain ⟨e1, e2⟩ := Cal.len_lo (y := y) m1 m2
        have hs := Cal.cum_succ (y := y) m1 m2
        have HS := Lib.hid hs
        have HC := Lib.hid hcm
        clear hs hcm
        by_cases hle : Cal.len y m ≤ l
        · have m3 : m < 12 := by
            by_cases h : m < 12
            · exact h
            · obtain rfl : m = 12 := by omega
              have h13 : Cal.cum y (12 + 1) = Cal.ylen y := Cal.cum_13 y
              have := HS.out
              have := HC.out
              omega
          go_wp2_with fail
          refine (refLength_any y m _).mono ?_
          rintro e w' ⟨rfl, rfl⟩
          go_wp2_with fail
          refine (refLength_any y m _).mono ?_
          rintro e w' ⟨rfl, rfl⟩
          go_wp2_with fail
          go_round
          case rel => exact ⟨m + 1, l - Cal.len y m, by omega, by omega, by omega, by omega, rfl, rfl, by rw [HS.out]; have := HC.out; omega⟩
          case measure => simp [intOf]; omega
        · have hok : Cal.Ok 9999 y m (l + 1) := ⟨y1, y2, m1, m2, by omega, by omega⟩
          have hdf : Cal.dateF n = (y, m, l + 1) := Cal.dateF_eq (Cal.ok_mono hok) (by unfold Cal.num; have := HN.out; have := HC.out; omega)
          have HDF := Lib.hid hdf
          clear hok hdf
          go_wp2_with fail
          refine (refLength_any y m _).mono ?_
          rintro e w' ⟨rfl, rfl⟩
          go_wp2_with fail
          refine bodyPost_ret (v := .tuple #[.agg #[.int .i64 y, .int .i64 m, .int .i64 (l + 1)], .int .i64 0]) (by simp [results, Try.results21, go_sem]) rfl ⟨by rw [HDF.out], ?_⟩
          exact (Below.refl _ _).alloc (Nat.le_refl _) _

theorem refDate_any (n : Int) (w : World) : Calls Try.prog 21 #[.int .i64 n] w fun e w' => e = .returned (.tuple #[.agg #[.int .i64 (Cal.dateR n).1.1, .int .i64 (Cal.dateR n).1.2.1, .int .i64 (Cal.dateR n).1.2.2], .int .i64 (Cal.dateR n).2]) ∧ Below w.heap.size w w' := by
  by_cases h : -135140 ≤ n ∧ n ≤ 2932896
  · rw [Cal.dateR_in h.1 h.2]
    exact refDate_yes n w h.1 h.2
  · rw [Cal.dateR_out h]
    exact refDate_no n w h

set_option maxRecDepth 100000 in
theorem awake02 (w : World) : Calls Try.prog 16 #[] w fun e w' => e = .returned (.bool true) ∧ Below w.heap.size w w' := by
  have e1 : Cal.numR 2000 3 1 = (11017, 0) := by decide
  have e2 : Cal.lp 2000 = true := by decide
  have e3 : Cal.len 2001 2 = 28 := by decide
  go_enter Try.func16, Try.ntmps16
  go_wp2_with fail
  refine (number_any 2000 3 1 _).mono ?_
  rintro e w1 ⟨rfl, hb⟩
  rw [e1]
  go_wp2_with fail
  refine (leap_any 2000 _).mono ?_
  rintro e w2 ⟨rfl, rfl⟩
  go_wp2_with fail
  refine (length_any 2001 2 _).mono ?_
  rintro e w2 ⟨rfl, rfl⟩
  go_wp2_with fail
  go_ret
  exact ⟨rfl, hb⟩

theorem within_any (n : Int) (w : World) : ∃ k : Nat, k < 3068037 ∧ Calls Try.prog 18 #[.int .i64 n] w fun e w' => e = .returned (.int .i64 (-135140 + (k : Int))) ∧ w = w' := by
  obtain ⟨u, k, hu, hu0, hu1, huk, hk⟩ := u64_rest n 3068037 (by omega)
  refine ⟨k, by omega, ?_⟩
  go_enter Try.func18, Try.ntmps18
  go_wp2
  go_ret
  exact ⟨rfl, rfl⟩
end Go.Proofs.Ytbkbeblogfakjaa
