/- The contracts of day.Date and of the document's: each answers the one date of a number, or refuses. -/
import Derived.Test.YtbkbeblogfakjaaDayNum
import Derived.StillTailTactics
namespace Go.Proofs.Ytbkbeblogfakjaa
open Go.RowKit
set_option linter.unusedVariables false
set_option linter.unusedSimpArgs false

theorem same_eq {P : Program} {f : FuncId} {args : Array Value} {w : World} {v : Value} (h : Calls P f args w fun e w' => e = .returned v ∧ w = w') : Calls P f args w fun e w' => e = .returned v ∧ w' = w :=
  h.mono fun _ _ ⟨he, hm⟩ => ⟨he, hm.symm⟩

/-- What a date's cells are. -/
def dcells (y m d : Int) : Array Value := #[.int .i64 y, .int .i64 m, .int .i64 d]

theorem dcell0 {wr : World} {g : Nat} {t : TypeId} {y m d : Int} (h : Blk wr g t (dcells y m d)) : wr.cell? ⟨g, 0, none⟩ = some (.int .i64 y) := by rw [h.cell]; rfl
theorem dcell1 {wr : World} {g : Nat} {t : TypeId} {y m d : Int} (h : Blk wr g t (dcells y m d)) : wr.cell? ⟨g, 1, none⟩ = some (.int .i64 m) := by rw [h.cell]; rfl
theorem dcell2 {wr : World} {g : Nat} {t : TypeId} {y m d : Int} (h : Blk wr g t (dcells y m d)) : wr.cell? ⟨g, 2, none⟩ = some (.int .i64 d) := by rw [h.cell]; rfl
theorem dset0 {wr : World} {g : Nat} {t : TypeId} {y m d y' : Int} (h : Blk wr g t (dcells y m d)) : Blk (wr.setCell ⟨g, 0, none⟩ (.int .i64 y')) g t (dcells y' m d) := h.set_ 0 _
theorem dset1 {wr : World} {g : Nat} {t : TypeId} {y m d y' : Int} (h : Blk wr g t (dcells y m d)) : Blk (wr.setCell ⟨g, 1, none⟩ (.int .i64 y')) g t (dcells y y' d) := h.set_ 1 _
theorem dset2 {wr : World} {g : Nat} {t : TypeId} {y m d y' : Int} (h : Blk wr g t (dcells y m d)) : Blk (wr.setCell ⟨g, 2, none⟩ (.int .i64 y')) g t (dcells y m y') := h.set_ 2 _

set_option maxRecDepth 100000 in
set_option maxHeartbeats 1000000 in
theorem date_no (n : Int) (w : World) (h : ¬ (-135140 ≤ n ∧ n ≤ 2932896)) : Calls Try.prog 19 #[.int .i64 n] w fun e w' => e = .returned (.tuple #[.agg #[.int .i64 0, .int .i64 0, .int .i64 0], .int .i64 10]) ∧ Below w.heap.size w w' := by
  by_cases h1 : n < -135140
  · have d1 : decide (n < -135140) = true := by simp; omega
    clear h
    go_enter Try.func19, Try.ntmps19
    go_wp2_with fail
    go_step3
    go_wp2_with fail
    simp only [Exit.noGoto]
    refine bodyPost_ret (v := .tuple #[.agg #[.int .i64 0, .int .i64 0, .int .i64 0], .int .i64 10]) (by simp [results, Try.results19, go_sem]) rfl ⟨rfl, ?_⟩
    exact ((Below.refl _ _).alloc (Nat.le_refl _) _).alloc (by simp) _
  · have d1 : decide (n < -135140) = false := by simp; omega
    have d2 : decide (2932896 < n) = true := by simp; omega
    clear h
    go_enter Try.func19, Try.ntmps19
    go_wp2_with fail
    go_step3
    go_wp2_with fail
    simp only [Exit.noGoto]
    refine bodyPost_ret (v := .tuple #[.agg #[.int .i64 0, .int .i64 0, .int .i64 0], .int .i64 10]) (by simp [results, Try.results19, go_sem]) rfl ⟨rfl, ?_⟩
    exact ((Below.refl _ _).alloc (Nat.le_refl _) _).alloc (by simp) _

theorem guess_le (n : Int) (h : -135140 ≤ n) : Cal.ny (1600 + (n + 135140) / 366) ≤ n := by unfold Cal.ny; omega

set_option maxRecDepth 100000 in
set_option maxHeartbeats 4000000 in
theorem date_yes (n : Int) (w : World) (hn1 : -135140 ≤ n) (hn2 : n ≤ 2932896) : Calls Try.prog 19 #[.int .i64 n] w fun e w' => e = .returned (.tuple #[.agg #[.int .i64 (Cal.dateF n).1, .int .i64 (Cal.dateF n).2.1, .int .i64 (Cal.dateF n).2.2], .int .i64 0]) ∧ Below w.heap.size w w' := by
  have d1 : decide (n < -135140) = false := by simp; omega
  have d2 : decide (2932896 < n) = false := by simp; omega
  have hg := guess_le n hn1
  have HG := Lib.hid hg
  clear hg
  go_enter Try.func19, Try.ntmps19
  go_wp2_with fail
  refine wp_scope_two
    (fun a' wr => ∃ (y : Int) (u1 u5 u6 u7 u8 u9 u10 u11 u12 u13 u14 u15 u16 u17 u18 u19 u20 u21 u22 u23 u24 u25 u26 u27 u28 u29 u30 u31 u32 u33 u34 u35 u36 u37 u38 u39 u40 u41 u42 u43 u44 u45 u46 u47 u48 u49 u50 u51 u52 u53 u54 u55 : Value), 1600 ≤ y ∧ y ≤ 9999 ∧ Cal.ny y ≤ n ∧ Blk wr w.heap.size 27 (dcells 0 0 0) ∧ Blk wr (w.heap.size + 1) 27 (dcells y 1 1) ∧ Below w.heap.size w wr ∧
      a' = { tmps := #[.int .i64 n, u1, .pointer (some ⟨w.heap.size, 0, none⟩), .int .i64 0, .pointer (some ⟨w.heap.size + 1, 0, none⟩), u5, u6, u7, u8, u9, u10, u11, u12, u13, u14, u15, u16, u17, u18, u19, u20, u21, u22, u23, u24, u25, u26, u27, u28, u29, u30, u31, u32, u33, u34, u35, u36, u37, u38, u39, u40, u41, u42, u43, u44, u45, u46, u47, u48, u49, u50, u51, u52, u53, u54, u55], defers := [] })
    (fun a' wr => ∃ (y m d : Int) (u1 u5 u6 u7 u8 u9 u10 u11 u12 u13 u14 u15 u16 u17 u18 u19 u20 u21 u22 u23 u24 u25 u26 u27 u28 u29 u30 u31 u32 u33 u34 u35 u36 u37 u38 u39 u40 u41 u42 u43 u44 u45 u46 u47 u48 u49 u50 u51 u52 u53 u54 u55 : Value), 1600 ≤ y ∧ y ≤ 9999 ∧ 1 ≤ m ∧ m ≤ 12 ∧ 1 ≤ d ∧ d ≤ 400 ∧ Cal.ny y + Cal.cum y m + d - 1 = n ∧ n < Cal.ny y + Cal.ylen y ∧ Blk wr w.heap.size 27 (dcells 0 0 0) ∧ Blk wr (w.heap.size + 1) 27 (dcells y m d) ∧ Below w.heap.size w wr ∧
      a' = { tmps := #[.int .i64 n, u1, .pointer (some ⟨w.heap.size, 0, none⟩), .int .i64 0, .pointer (some ⟨w.heap.size + 1, 0, none⟩), u5, u6, u7, u8, u9, u10, u11, u12, u13, u14, u15, u16, u17, u18, u19, u20, u21, u22, u23, u24, u25, u26, u27, u28, u29, u30, u31, u32, u33, u34, u35, u36, u37, u38, u39, u40, u41, u42, u43, u44, u45, u46, u47, u48, u49, u50, u51, u52, u53, u54, u55], defers := [] })
    (fun _ wr => 20 + (9999 - intOf ((wr.cell? ⟨w.heap.size + 1, 0, none⟩).getD undef)).toNat) (fun _ wr => (12 - intOf ((wr.cell? ⟨w.heap.size + 1, 1, none⟩).getD undef)).toNat) rfl rfl ?_ ?_ ?_
  · rintro a' wr ⟨y, u1, u5, u6, u7, u8, u9, u10, u11, u12, u13, u14, u15, u16, u17, u18, u19, u20, u21, u22, u23, u24, u25, u26, u27, u28, u29, u30, u31, u32, u33, u34, u35, u36, u37, u38, u39, u40, u41, u42, u43, u44, u45, u46, u47, u48, u49, u50, u51, u52, u53, u54, u55, hy1, hy2, hny, hb0, hb1, hbel, rfl⟩ hlow
    have HLOW := Lib.hid hlow
    clear hlow HG
    have c0 := dcell0 hb1
    have c1 := dcell1 hb1
    have c2 := dcell2 hb1
    have f0 := hb1.frozen 0
    have f1 := hb1.frozen 1
    have f2 := hb1.frozen 2
    have hm0 : (20 + (9999 - intOf ((wr.cell? ⟨w.heap.size + 1, 0, none⟩).getD undef)).toNat) = 20 + (9999 - y).toNat := by rw [c0]; rfl
    have HM0 := Lib.hid hm0
    have HB0 := Lib.hid hb0
    have HB1 := Lib.hid hb1
    have HNY := Lib.hid hny
    clear hb0 hb1 hm0
    have hlo := Cal.ny_le (y := 1600) (y - 1600).toNat
    rw [show (1600 : Int) + ((y - 1600).toNat : Int) = y from by omega, Cal.ny_first] at hlo
    by_cases hstep : Cal.ny (y + 1) ≤ n
    · have hy3 : y + 1 ≤ 9999 := by
        by_cases h : y + 1 ≤ 9999
        · exact h
        · obtain rfl : y = 9999 := by omega
          have : Cal.ny (9999 + 1) = 2932897 := Cal.ny_end
          omega
      go_wp2_with fail
      refine (newYear_any _ (by omega) (by omega) _).mono ?_
      rintro e w' ⟨rfl, rfl⟩
      go_wp2_with fail
      go_step3
      show _ ∧ _
      refine ⟨⟨y + 1, ?_⟩, ?_⟩
      · (repeat apply Exists.intro)
        exact ⟨by omega, by omega, hstep, HB0.out.far (by simp) _, dset0 HB1.out, hbel.setCell (by simp) _, rfl⟩
      · show _ < _
        rw [HM0.out, dcell0 (dset0 HB1.out)]
        simp [intOf]
        omega
    · go_wp2_with fail
      refine (newYear_any _ (by omega) (by omega) _).mono ?_
      rintro e w' ⟨rfl, rfl⟩
      go_wp2_with fail
      have hlt : n < Cal.ny y + Cal.ylen y := by rw [← Cal.ny_succ]; omega
      have hyl := Cal.ylen_lb y
      have hlb := Cal.lb_01 y
      have hdd : 1 + (n - Cal.ny y) ≤ 400 := by omega
      clear hstep hyl hlb
      refine wp_region_still_tail 9 (by kernel_rfl) (by kernel_rfl) ?_
      simp only [List.take_succ_cons, List.take_zero, List.drop_succ_cons, List.drop_zero]
      repeat still_step
      still_call (same_eq (newYear_any y (by omega) (by omega) _))
      repeat still_step
      refine wpStill_nil ?_
      change wpList _ _ _ _ _ wr.drew
      go_wp2_with fail
      go_step3
      rename_i hk
      refine hk _ _ (HLOW.out _ _ ⟨y, 1, 1 + (n - Cal.ny y), ?_⟩ ?_)
      · (repeat apply Exists.intro)
        exact ⟨by omega, by omega, by omega, by omega, by omega, hdd, by rw [Cal.cum_1]; omega, hlt, (HB0.out.drew).far (by simp) _, dset2 HB1.out.drew, hbel.drew.setCell (by simp) _, rfl⟩
      · have hc1 := dcell1 (Blk.drew (dset2 (y' := 1 + (n - Cal.ny y)) HB1.out))
        rw [hc1, HM0.out]
        simp [intOf]
        omega
  · rintro a' wr ⟨y, m, d, u1, u5, u6, u7, u8, u9, u10, u11, u12, u13, u14, u15, u16, u17, u18, u19, u20, u21, u22, u23, u24, u25, u26, u27, u28, u29, u30, u31, u32, u33, u34, u35, u36, u37, u38, u39, u40, u41, u42, u43, u44, u45, u46, u47, u48, u49, u50, u51, u52, u53, u54, u55, hy1, hy2, hm1, hm2, hd1, hd2, hnum, hlt, hb0, hb1, hbel, rfl⟩
    clear HG
    have c0 := dcell0 hb1
    have c1 := dcell1 hb1
    have c2 := dcell2 hb1
    have f0 := hb1.frozen 0
    have f1 := hb1.frozen 1
    have f2 := hb1.frozen 2
    have r0 := dcell0 hb0
    have r1 := dcell1 hb0
    have r2 := dcell2 hb0
    have g0 := hb0.frozen 0
    have g1 := hb0.frozen 1
    have g2 := hb0.frozen 2
    have hm0 : (12 - intOf ((wr.cell? ⟨w.heap.size + 1, 1, none⟩).getD undef)).toNat = (12 - m).toNat := by rw [c1]; rfl
    have HM0 := Lib.hid hm0
    have HB0 := Lib.hid hb0
    have HB1 := Lib.hid hb1
    have HNUM := Lib.hid hnum
    obtain ⟨l1, l2⟩ := Cal.len_lo (y := y) hm1 hm2
    have hs := Cal.cum_succ (y := y) hm1 hm2
    have HS := Lib.hid hs
    clear hb0 hb1 hm0 hs
    by_cases hstep : Cal.len y m < d
    · have hm3 : m < 12 := by
        by_cases h : m < 12
        · exact h
        · obtain rfl : m = 12 := by omega
          have h13 : Cal.cum y (12 + 1) = Cal.ylen y := Cal.cum_13 y
          have := HS.out
          omega
      clear hnum
      go_wp2_with fail
      refine (length_any y m _).mono ?_
      rintro e w' ⟨rfl, rfl⟩
      go_wp2_with fail
      go_step3
      show _ ∧ _
      refine ⟨⟨y, m + 1, d - Cal.len y m, ?_⟩, ?_⟩
      · (repeat apply Exists.intro)
        exact ⟨hy1, hy2, by omega, by omega, by omega, by omega, by rw [HS.out, ← HNUM.out]; omega, hlt, (HB0.out.far (by simp) _).far (by simp) _, dset1 (dset2 HB1.out), (hbel.setCell (by simp) _).setCell (by simp) _, rfl⟩
      · show _ < _
        rw [HM0.out, dcell1 (dset1 (dset2 HB1.out))]
        simp [intOf]
        omega
    · have hok : Cal.Ok 9999 y m d := ⟨hy1, hy2, hm1, hm2, hd1, by omega⟩
      have hdf : Cal.dateF n = (y, m, d) := Cal.dateF_eq (Cal.ok_mono hok) (by unfold Cal.num; exact hnum)
      have HDF := Lib.hid hdf
      clear hdf hok hnum
      go_wp2_with fail
      refine (length_any y m _).mono ?_
      rintro e w' ⟨rfl, rfl⟩
      go_wp2_with fail
      simp only [two]
      refine bodyPost_ret (v := .tuple #[.agg #[.int .i64 y, .int .i64 m, .int .i64 d], .int .i64 0]) ?_ rfl ⟨by rw [HDF.out], ?_⟩
      · simp [results, Try.results19, go_sem, r0, r1, r2]
      · exact ((hbel.setCell (by simp) _).setCell (by simp) _).setCell (by simp) _
  · intro hp
    have hgb : 1600 + (n + 135140) / 366 ≤ 9999 := by omega
    have hga : 1600 ≤ 1600 + (n + 135140) / 366 := by omega
    go_wp2_with fail
    go_step3
    rename_i hk
    refine hk _ _ (hp _ _ ⟨1600 + (n + 135140) / 366, ?_⟩)
    (repeat apply Exists.intro)
    refine ⟨hga, hgb, HG.out, ?_, ?_, ?_, rfl⟩
    · exact (Blk.new w _ _).alloc _
    · have h := Blk.new (w.alloc (.cells (dcells 0 0 0) 27)) 27 (dcells (1600 + (n + 135140) / 366) 1 1)
      rw [World.size_alloc] at h
      exact h
    · exact ((Below.refl _ _).alloc (Nat.le_refl _) _).alloc (by simp) _

theorem date_any (n : Int) (w : World) : Calls Try.prog 19 #[.int .i64 n] w fun e w' => e = .returned (.tuple #[.agg #[.int .i64 (Cal.dateR n).1.1, .int .i64 (Cal.dateR n).1.2.1, .int .i64 (Cal.dateR n).1.2.2], .int .i64 (Cal.dateR n).2]) ∧ Below w.heap.size w w' := by
  by_cases h : -135140 ≤ n ∧ n ≤ 2932896
  · rw [Cal.dateR_in h.1 h.2]
    exact date_yes n w h.1 h.2
  · rw [Cal.dateR_out h]
    exact date_no n w h
end Go.Proofs.Ytbkbeblogfakjaa
