/- The walk of the law DayNext: it returns true, and turns nothing that was there. -/
import Derived.Test.YtbkbeblogfakjaaDayRef
import Derived.Test.YtbkbeblogfakjaaDayDate
import Derived.Test.YtbkbeblogfakjaaLater
import Derived.Deep.DeepCutAuto
import Derived.OpenShut
namespace Go.Proofs.Ytbkbeblogfakjaa
open Go.RowKit
set_option linter.unusedVariables false
set_option linter.unusedSimpArgs false

theorem nextD_1 {y m d : Int} (h : d < Cal.len y m) : Cal.nextD y m d = (y, m, d + 1) := by unfold Cal.nextD; rw [if_pos h]
theorem nextD_2 {y m d : Int} (h : ¬ d < Cal.len y m) (h2 : m < 12) : Cal.nextD y m d = (y, m + 1, 1) := by unfold Cal.nextD; rw [if_neg h, if_pos h2]
theorem nextD_3 {y m d : Int} (h : ¬ d < Cal.len y m) (h2 : ¬ m < 12) : Cal.nextD y m d = (y + 1, 1, 1) := by unfold Cal.nextD; rw [if_neg h, if_neg h2]

set_option maxRecDepth 100000 in
set_option maxHeartbeats 4000000 in
theorem dayNext_walk (a0 : Int) (w : World) (w0 : (Lit.int .i64 a0).wf = true) : Calls Try.prog 8 #[.int .i64 a0] w fun e w' => e = .returned (.bool true) ∧ Below w.heap.size w w' := by
  obtain ⟨k, hk, hwith⟩ := within_any a0 w
  obtain ⟨K, hK⟩ : ∃ K : Int, -135140 + (k : Int) = K := ⟨_, rfl⟩
  rw [hK] at hwith
  have HW := Lib.hid hwith
  have k1 : -135140 ≤ K := by omega
  have k2 : K ≤ 2932896 := by omega
  have hdr := Cal.dateR_in k1 k2
  by_cases hend : K = 2932896
  · subst hend
    have hdf : Cal.dateF 2932896 = (9999, 12, 31) := Cal.dateF_eq ⟨by omega, by omega, by omega, by omega, by omega, by decide⟩ (by decide)
    rw [hdf] at hdr
    have hdr2 : Cal.dateR 2932897 = ((0, 0, 0), 10) := Cal.dateR_out (by omega)
    have HDR := Lib.hid hdr
    have HDR2 := Lib.hid hdr2
    clear hdr hdr2 hdf hwith hK
    go_enter Try.func8, Try.ntmps8
    go_wp2_with fail
    refine HW.out.mono ?_
    rintro e w' ⟨rfl, rfl⟩
    go_wp2_with fail
    refine (date_any _ _).mono ?_
    rintro e v1 ⟨rfl, hb1⟩
    rw [HDR.out]
    have hblk1 := Blk.new v1 27 (dcells 9999 12 31)
    have hbel1 := hb1.alloc hb1.size (.cells (dcells 9999 12 31) 27)
    have HX1 := Lib.hid hblk1
    have HL1 := Lib.hid hbel1
    clear hb1 hblk1 hbel1
    go_wp2_with fail
    refine (date_any _ _).mono ?_
    rintro e v2 ⟨rfl, hb2⟩
    rw [HDR2.out]
    have hblk2 := HX1.out.below hb2 HX1.out.lt
    have hbel2 := HL1.out.trans (hb2.mono HL1.out.size)
    have HX2 := Lib.hid hblk2
    have HL2 := Lib.hid hbel2
    clear hb2 hblk2 hbel2 HX1 HL1
    go_wp2_with fail
    refine (awake02 _).mono ?_
    rintro e v3 ⟨rfl, hb3⟩
    have hblk3 := (HX2.out.alloc _).below hb3 (by have := HX2.out.lt; simp; omega)
    have hbel3 := (HL2.out.alloc HL2.out.size _).trans (hb3.mono (by have := HL2.out.size; simp; omega))
    have c0 := dcell0 hblk3
    have c1 := dcell1 hblk3
    have c2 := dcell2 hblk3
    have HL3 := Lib.hid hbel3
    clear hb3 hblk3 hbel3 HX2 HL2 HW HDR HDR2
    go_wp2_with fail
    go_ret
    exact ⟨rfl, HL3.out⟩
  · have hdr2 := Cal.dateR_in (n := K + 1) (by omega) (by omega)
    rw [Cal.dateF_next k1 k2] at hdr2
    obtain ⟨hok, _⟩ := Cal.dateF_ok' k1 k2
    have hwd := Cal.wday_mod K
    have hwd2 := Cal.wday_mod (K + 1)
    obtain ⟨V, hV⟩ : ∃ V : Int, Cal.wday K = V := ⟨_, rfl⟩
    have v0 : 0 ≤ V ∧ V ≤ 6 := by omega
    have hV2 : Cal.wday (K + 1) = (V + 1) % 7 := by omega
    obtain ⟨v1, v2⟩ := v0
    generalize Cal.dateF K = D at *
    obtain ⟨dy, dm, dd⟩ := D
    dsimp only at hdr2 hok
    obtain ⟨o1, o2, o3, o4, o5, o6⟩ := hok
    obtain ⟨l1, l2⟩ := Cal.len_lo (y := dy) o3 o4
    have hend' : (K == 2932896) = false := by simp [hend]
    have HV := Lib.hid hV
    have HV2 := Lib.hid hV2
    have HDR := Lib.hid hdr
    clear hdr hwith hK hwd hwd2 hV hV2 hend
    have key : (dd < Cal.len dy dm ∧ Cal.nextD dy dm dd = (dy, dm, dd + 1)) ∨ (dd = Cal.len dy dm ∧ dm < 12 ∧ Cal.nextD dy dm dd = (dy, dm + 1, 1)) ∨ (dd = Cal.len dy dm ∧ dm = 12 ∧ Cal.nextD dy dm dd = (dy + 1, 1, 1)) := by
      by_cases h : dd < Cal.len dy dm
      · exact .inl ⟨h, nextD_1 h⟩
      · by_cases h2 : dm < 12
        · exact .inr (.inl ⟨by omega, h2, nextD_2 h h2⟩)
        · exact .inr (.inr ⟨by omega, by omega, nextD_3 h h2⟩)
    rcases key with ⟨h1, hx⟩ | ⟨h1, h2, hx⟩ | ⟨h1, h2, hx⟩
    · rw [hx] at hdr2
      have HDR2 := Lib.hid hdr2
      clear hdr2 hx
      go_enter Try.func8, Try.ntmps8
      go_wp2_with fail
      refine HW.out.mono ?_
      rintro e w' ⟨rfl, rfl⟩
      go_wp2_with fail
      refine (date_any _ _).mono ?_
      rintro e z1 ⟨rfl, hb1⟩
      rw [HDR.out]
      have hblk1 := Blk.new z1 27 (dcells dy dm dd)
      have hbel1 := hb1.alloc hb1.size (.cells (dcells dy dm dd) 27)
      have HX1 := Lib.hid hblk1
      have HL1 := Lib.hid hbel1
      clear hb1 hblk1 hbel1
      go_wp2_with fail
      refine (date_any _ _).mono ?_
      rintro e z2 ⟨rfl, hb2⟩
      rw [HDR2.out]
      have hblk2 := (HX1.out.below hb2 HX1.out.lt).alloc (.cells (dcells dy dm (dd + 1)) 27)
      have hnew2 := Blk.new z2 27 (dcells dy dm (dd + 1))
      have hbel2 := (HL1.out.trans (hb2.mono HL1.out.size)).alloc (Nat.le_trans HL1.out.size hb2.size) (.cells (dcells dy dm (dd + 1)) 27)
      have HX2 := Lib.hid hblk2
      have HY2 := Lib.hid hnew2
      have HL2 := Lib.hid hbel2
      clear hb2 hblk2 hbel2 hnew2 HX1 HL1
      go_wp2_with fail
      refine (awake02 _).mono ?_
      rintro e z3 ⟨rfl, hb3⟩
      have hblk3 := HX2.out.below hb3 HX2.out.lt
      have hnew3 := HY2.out.below hb3 HY2.out.lt
      have hbel3 := HL2.out.trans (hb3.mono HL2.out.size)
      have hg3 := hblk3.lt
      have hg5 := hnew3.lt
      have c0 := dcell0 hblk3
      have c1 := dcell1 hblk3
      have c2 := dcell2 hblk3
      have e0 := dcell0 hnew3
      have e1 := dcell1 hnew3
      have e2 := dcell2 hnew3
      have hsz := hbel3.size
      have HL3 := Lib.hid hbel3
      clear hb3 hblk3 hbel3 hnew3 HX2 HY2 HL2 HW HDR HDR2
      go_wp2_with fail
      go_quiet ((go_at_call 25; exact quiet_eq (refLength_any _ _ _)))
      go_wp2_with fail
      refine (weekday_any _ _).mono ?_
      rintro e w' ⟨rfl, rfl⟩
      rw [HV2.out]
      go_wp2_with fail
      refine (weekday_any _ _).mono ?_
      rintro e w' ⟨rfl, rfl⟩
      rw [HV.out]
      go_wp2_with fail
      go_ret
      refine ⟨rfl, ?_⟩
      exact (HL3.out.alloc hsz _).trans ((Quiet.drewN _ _).below _)
    · rw [hx] at hdr2
      have HDR2 := Lib.hid hdr2
      clear hdr2 hx
      subst h1
      go_enter Try.func8, Try.ntmps8
      go_wp2_with fail
      refine HW.out.mono ?_
      rintro e w' ⟨rfl, rfl⟩
      go_wp2_with fail
      refine (date_any _ _).mono ?_
      rintro e z1 ⟨rfl, hb1⟩
      rw [HDR.out]
      have hblk1 := Blk.new z1 27 (dcells dy dm (Cal.len dy dm))
      have hbel1 := hb1.alloc hb1.size (.cells (dcells dy dm (Cal.len dy dm)) 27)
      have HX1 := Lib.hid hblk1
      have HL1 := Lib.hid hbel1
      clear hb1 hblk1 hbel1
      go_wp2_with fail
      refine (date_any _ _).mono ?_
      rintro e z2 ⟨rfl, hb2⟩
      rw [HDR2.out]
      have hblk2 := (HX1.out.below hb2 HX1.out.lt).alloc (.cells (dcells dy (dm + 1) 1) 27)
      have hnew2 := Blk.new z2 27 (dcells dy (dm + 1) 1)
      have hbel2 := (HL1.out.trans (hb2.mono HL1.out.size)).alloc (Nat.le_trans HL1.out.size hb2.size) (.cells (dcells dy (dm + 1) 1) 27)
      have HX2 := Lib.hid hblk2
      have HY2 := Lib.hid hnew2
      have HL2 := Lib.hid hbel2
      clear hb2 hblk2 hbel2 hnew2 HX1 HL1
      go_wp2_with fail
      refine (awake02 _).mono ?_
      rintro e z3 ⟨rfl, hb3⟩
      have hblk3 := HX2.out.below hb3 HX2.out.lt
      have hnew3 := HY2.out.below hb3 HY2.out.lt
      have hbel3 := HL2.out.trans (hb3.mono HL2.out.size)
      have hg3 := hblk3.lt
      have hg5 := hnew3.lt
      have c0 := dcell0 hblk3
      have c1 := dcell1 hblk3
      have c2 := dcell2 hblk3
      have e0 := dcell0 hnew3
      have e1 := dcell1 hnew3
      have e2 := dcell2 hnew3
      have hsz := hbel3.size
      have HL3 := Lib.hid hbel3
      clear hb3 hblk3 hbel3 hnew3 HX2 HY2 HL2 HW HDR HDR2
      go_wp2_with fail
      go_quiet ((go_at_call 25; exact quiet_eq (refLength_any _ _ _)))
      go_wp2_with fail
      refine (weekday_any _ _).mono ?_
      rintro e w' ⟨rfl, rfl⟩
      rw [HV2.out]
      go_wp2_with fail
      refine (weekday_any _ _).mono ?_
      rintro e w' ⟨rfl, rfl⟩
      rw [HV.out]
      go_wp2_with fail
      go_ret
      refine ⟨rfl, ?_⟩
      exact (((((HL3.out.alloc hsz _).trans ((Quiet.drewN _ _).below _)).setCell hsz _).setCell hsz _).setCell hsz _)
    · rw [hx] at hdr2
      have HDR2 := Lib.hid hdr2
      clear hdr2 hx
      subst h1
      subst h2
      go_enter Try.func8, Try.ntmps8
      go_wp2_with fail
      refine HW.out.mono ?_
      rintro e w' ⟨rfl, rfl⟩
      go_wp2_with fail
      refine (date_any _ _).mono ?_
      rintro e z1 ⟨rfl, hb1⟩
      rw [HDR.out]
      have hblk1 := Blk.new z1 27 (dcells dy 12 (Cal.len dy 12))
      have hbel1 := hb1.alloc hb1.size (.cells (dcells dy 12 (Cal.len dy 12)) 27)
      have HX1 := Lib.hid hblk1
      have HL1 := Lib.hid hbel1
      clear hb1 hblk1 hbel1
      go_wp2_with fail
      refine (date_any _ _).mono ?_
      rintro e z2 ⟨rfl, hb2⟩
      rw [HDR2.out]
      have hblk2 := (HX1.out.below hb2 HX1.out.lt).alloc (.cells (dcells (dy + 1) 1 1) 27)
      have hnew2 := Blk.new z2 27 (dcells (dy + 1) 1 1)
      have hbel2 := (HL1.out.trans (hb2.mono HL1.out.size)).alloc (Nat.le_trans HL1.out.size hb2.size) (.cells (dcells (dy + 1) 1 1) 27)
      have HX2 := Lib.hid hblk2
      have HY2 := Lib.hid hnew2
      have HL2 := Lib.hid hbel2
      clear hb2 hblk2 hbel2 hnew2 HX1 HL1
      go_wp2_with fail
      refine (awake02 _).mono ?_
      rintro e z3 ⟨rfl, hb3⟩
      have hblk3 := HX2.out.below hb3 HX2.out.lt
      have hnew3 := HY2.out.below hb3 HY2.out.lt
      have hbel3 := HL2.out.trans (hb3.mono HL2.out.size)
      have hg3 := hblk3.lt
      have hg5 := hnew3.lt
      have c0 := dcell0 hblk3
      have c1 := dcell1 hblk3
      have c2 := dcell2 hblk3
      have e0 := dcell0 hnew3
      have e1 := dcell1 hnew3
      have e2 := dcell2 hnew3
      have hsz := hbel3.size
      have HL3 := Lib.hid hbel3
      clear hb3 hblk3 hbel3 hnew3 HX2 HY2 HL2 HW HDR HDR2
      go_wp2_with fail
      go_quiet ((go_at_call 25; exact quiet_eq (refLength_any _ _ _)))
      have hw5 : ∀ W5 : World, W5 = (((((z3.alloc (Obj.cells #[Value.int IntKind.i64 dy, Value.int IntKind.i64 12, Value.int IntKind.i64 (Cal.len dy 12 + 1)] 27)).drewN nq).setCell ⟨z3.heap.size, 0, none⟩ (Value.int IntKind.i64 dy)).setCell ⟨z3.heap.size, 1, none⟩ (Value.int IntKind.i64 13)).setCell ⟨z3.heap.size, 2, none⟩ (Value.int IntKind.i64 1)) →
          Blk W5 z3.heap.size 27 (dcells dy 13 1) ∧ Below w.heap.size w W5 ∧ Below z3.heap.size z3 W5 := by
        rintro W5 rfl
        refine ⟨dset2 (dset1 (dset0 (d := Cal.len dy 12 + 1) ((Blk.new z3 _ _).drewN nq))), (((((HL3.out.alloc hsz _).trans ((Quiet.drewN _ _).below _)).setCell hsz _).setCell hsz _).setCell hsz _), ?_⟩
        exact ((((((Below.refl _ z3).alloc (Nat.le_refl _) _).trans ((Quiet.drewN _ _).below _)).setCell (Nat.le_refl _) _).setCell (Nat.le_refl _) _).setCell (Nat.le_refl _) _)
      go_upto_if 60 with (fail)
      generalize hW5 : (((((z3.alloc (Obj.cells #[Value.int IntKind.i64 dy, Value.int IntKind.i64 12, Value.int IntKind.i64 (Cal.len dy 12 + 1)] 27)).drewN nq).setCell ⟨z3.heap.size, 0, none⟩ (Value.int IntKind.i64 dy)).setCell ⟨z3.heap.size, 1, none⟩ (Value.int IntKind.i64 13)).setCell ⟨z3.heap.size, 2, none⟩ (Value.int IntKind.i64 1)) = W5
      obtain ⟨x1, x2, x3⟩ := hw5 W5 hW5.symm
      have c0' := (x3.cell (p := ⟨z1.heap.size, 0, none⟩) hg3).trans c0
      have c1' := (x3.cell (p := ⟨z1.heap.size, 1, none⟩) hg3).trans c1
      have c2' := (x3.cell (p := ⟨z1.heap.size, 2, none⟩) hg3).trans c2
      have e0' := (x3.cell (p := ⟨z2.heap.size, 0, none⟩) hg5).trans e0
      have e1' := (x3.cell (p := ⟨z2.heap.size, 1, none⟩) hg5).trans e1
      have e2' := (x3.cell (p := ⟨z2.heap.size, 2, none⟩) hg5).trans e2
      have t0 := dcell0 x1
      have t1 := dcell1 x1
      have t2 := dcell2 x1
      have f0 := x1.frozen 0
      have f1 := x1.frozen 1
      have f2 := x1.frozen 2
      have HX2 := Lib.hid x2
      clear hW5 hw5 c0 c1 c2 e0 e1 e2 x1 x2 x3 HL3
      generalize z3.heap.size = g7 at *
      generalize z2.heap.size = g5 at *
      generalize z1.heap.size = g3 at *
      go_wp2_with fail
      refine (weekday_any _ _).mono ?_
      rintro e w' ⟨rfl, rfl⟩
      rw [HV2.out]
      go_wp2_with fail
      refine (weekday_any _ _).mono ?_
      rintro e w' ⟨rfl, rfl⟩
      rw [HV.out]
      go_wp2_with fail
      go_ret
      refine ⟨rfl, ?_⟩
      exact ((HX2.out.setCell hsz _).setCell hsz _).setCell hsz _
end Go.Proofs.Ytbkbeblogfakjaa
