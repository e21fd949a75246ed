/- The walks of the laws DayMonths, DayBack and DayNext: each returns true, and turns nothing that was there. -/
import Derived.Test.YtbkbeblogfakjaaDayRef
import Derived.Test.YtbkbeblogfakjaaDayDate
import Derived.OpenShut
namespace Go.Proofs.Ytbkbeblogfakjaa
open Go.RowKit
set_option linter.unusedVariables false
set_option linter.unusedSimpArgs false

set_option maxRecDepth 100000 in
set_option maxHeartbeats 4000000 in
theorem dayMonths_walk (a0 a1 : Int) (w : World) (w0 : (Lit.int .i64 a0).wf = true) (w1 : (Lit.int .i64 a1).wf = true) : Calls Try.prog 4 #[.int .i64 a0, .int .i64 a1] w fun e w' => e = .returned (.bool true) ∧ Below w.heap.size w w' := by
  obtain ⟨u, k, hu, hu0, hu1, huk, hk⟩ := u64_rest a0 8399 (by omega)
  obtain ⟨u', j, hv, hv0, hv1, hvj, hj⟩ := u64_rest a1 12 (by omega)
  obtain ⟨Y, hY⟩ : ∃ Y : Int, 1600 + (k : Int) = Y := ⟨_, rfl⟩
  obtain ⟨M, hM⟩ : ∃ M : Int, 1 + (j : Int) = M := ⟨_, rfl⟩
  have y1 : 1600 ≤ Y := by omega
  have y2 : Y ≤ 9998 := by omega
  have m1 : 1 ≤ M := by omega
  have m2 : M ≤ 12 := by omega
  obtain ⟨l1, l2⟩ := Cal.len_lo (y := Y) m1 m2
  have ok1 : Cal.Ok 9999 Y M 1 := ⟨y1, by omega, m1, m2, by omega, by omega⟩
  have okL : Cal.Ok 9999 Y M (Cal.len Y M) := ⟨y1, by omega, m1, m2, by omega, by omega⟩
  obtain ⟨b1, b2⟩ := Cal.num_range ok1
  have q1 := Cal.numR_ok ok1
  have q2 := Cal.numR_ok okL
  have q3 : Cal.numR Y M (Cal.len Y M + 1) = (0, 10) := Cal.numR_not (by omega)
  have q4 : Cal.numR Y M 0 = (0, 10) := Cal.numR_not (by omega)
  have e2 : Cal.num Y M (Cal.len Y M) = Cal.num Y M 1 + Cal.len Y M - 1 := by unfold Cal.num; omega
  rw [e2] at q2
  have Q1 := Lib.hid q1
  have Q2 := Lib.hid q2
  have Q3 := Lib.hid q3
  have Q4 := Lib.hid q4
  have okl' := Cal.len_lo (y := Y + 1) (m := 1) (by omega) (by omega)
  by_cases h12 : M = 12
  · have q5 : Cal.numR (Y + 1) 1 1 = (Cal.num Y M 1 + Cal.len Y M, 0) := by
      rw [Cal.numR_ok ⟨by omega, by omega, by omega, by omega, by omega, by omega⟩]
      have hs := Cal.cum_succ (y := Y) m1 m2
      have h13 : Cal.cum Y (12 + 1) = Cal.ylen Y := Cal.cum_13 Y
      have hn := Cal.ny_succ Y
      have h1 := Cal.cum_1 (Y + 1)
      subst h12
      unfold Cal.num
      congr 1
      omega
    have Q5 := Lib.hid q5
    have e12 : (M == 12) = true := by simp [h12]
    clear q1 q2 q3 q4 e2 ok1 okL q5 okl' h12
    generalize Cal.num Y M 1 = N at *
    generalize hL : Cal.len Y M = L at *
    have HL := Lib.hid hL
    clear hL
    have hf : (N + L - N == L) = true := by rw [beq_iff_eq]; omega
    go_enter Try.func4, Try.ntmps4
    go_wp2_with fail
    refine (length_any Y M _).mono ?_
    rintro e w' ⟨rfl, rfl⟩
    rw [HL.out]
    go_wp2_with fail
    refine (number_any _ _ _ _).mono ?_
    rintro e v1 ⟨rfl, hb1⟩
    rw [Q1.out]
    go_wp2_with fail
    refine (number_any _ _ _ _).mono ?_
    rintro e v2 ⟨rfl, hb2⟩
    rw [Q2.out]
    have hb2' := hb1.trans (hb2.mono hb1.size)
    clear hb1 hb2
    go_wp2_with fail
    refine (number_any _ _ _ _).mono ?_
    rintro e v3 ⟨rfl, hb3⟩
    rw [Q3.out]
    have hb3' := hb2'.trans (hb3.mono hb2'.size)
    clear hb2' hb3
    go_wp2_with fail
    refine (number_any _ _ _ _).mono ?_
    rintro e v4 ⟨rfl, hb4⟩
    rw [Q4.out]
    have hb4' := hb3'.trans (hb4.mono hb3'.size)
    clear hb3' hb4
    go_wp2_with fail
    refine (number_any _ _ _ _).mono ?_
    rintro e v5 ⟨rfl, hb5⟩
    rw [Q5.out]
    have hsz := hb4'.size
    have hb5' := (hb4'.alloc hsz _).trans (hb5.mono (by simp; omega))
    clear hb4' hb5
    go_wp2_with fail
    refine (awake02 _).mono ?_
    rintro e v6 ⟨rfl, hb6⟩
    go_wp2_with fail
    go_ret
    exact ⟨rfl, hb5'.trans (hb6.mono hb5'.size)⟩
  · have q5 : Cal.numR Y (M + 1) 1 = (Cal.num Y M 1 + Cal.len Y M, 0) := by
      have hl := Cal.len_lo (y := Y) (m := M + 1) (by omega) (by omega)
      rw [Cal.numR_ok ⟨by omega, by omega, by omega, by omega, by omega, by omega⟩]
      have hs := Cal.cum_succ (y := Y) m1 m2
      unfold Cal.num
      congr 1
      omega
    have Q5 := Lib.hid q5
    have e12 : (M == 12) = false := by simp [h12]
    clear q1 q2 q3 q4 e2 ok1 okL q5 okl' h12
    generalize Cal.num Y M 1 = N at *
    generalize hL : Cal.len Y M = L at *
    have HL := Lib.hid hL
    clear hL
    have hf : (N + L - N == L) = true := by rw [beq_iff_eq]; omega
    go_enter Try.func4, Try.ntmps4
    go_wp2_with fail
    refine (length_any Y M _).mono ?_
    rintro e w' ⟨rfl, rfl⟩
    rw [HL.out]
    go_wp2_with fail
    refine (number_any _ _ _ _).mono ?_
    rintro e v1 ⟨rfl, hb1⟩
    rw [Q1.out]
    go_wp2_with fail
    refine (number_any _ _ _ _).mono ?_
    rintro e v2 ⟨rfl, hb2⟩
    rw [Q2.out]
    have hb2' := hb1.trans (hb2.mono hb1.size)
    clear hb1 hb2
    go_wp2_with fail
    refine (number_any _ _ _ _).mono ?_
    rintro e v3 ⟨rfl, hb3⟩
    rw [Q3.out]
    have hb3' := hb2'.trans (hb3.mono hb2'.size)
    clear hb2' hb3
    go_wp2_with fail
    refine (number_any _ _ _ _).mono ?_
    rintro e v4 ⟨rfl, hb4⟩
    rw [Q4.out]
    have hb4' := hb3'.trans (hb4.mono hb3'.size)
    clear hb3' hb4
    go_wp2_with fail
    refine (number_any _ _ _ _).mono ?_
    rintro e v5 ⟨rfl, hb5⟩
    rw [Q5.out]
    have hsz := hb4'.size
    have hb5' := (hb4'.alloc hsz _).trans (hb5.mono (by simp; omega))
    clear hb4' hb5
    go_wp2_with fail
    refine (awake02 _).mono ?_
    rintro e v6 ⟨rfl, hb6⟩
    go_wp2_with fail
    go_ret
    exact ⟨rfl, hb5'.trans (hb6.mono hb5'.size)⟩

set_option maxRecDepth 100000 in
set_option maxHeartbeats 4000000 in
theorem dayBack_walk (a0 y m d : Int) (w : World) : Calls Try.prog 6 #[.int .i64 a0, .agg #[.int .i64 y, .int .i64 m, .int .i64 d]] w fun e w' => e = .returned (.bool true) ∧ Below w.heap.size w w' := by
  obtain ⟨k, hk, hwith⟩ := within_any a0 (w.alloc (.cells (dcells y m d) 27))
  obtain ⟨K, hK⟩ : ∃ K : Int, -135140 + (k : Int) = K := ⟨_, rfl⟩
  rw [hK] at hwith
  have HW := Lib.hid hwith
  have k1 : -135140 ≤ K := by omega
  have k2 : K ≤ 2932896 := by omega
  have hdr := Cal.dateR_in k1 k2
  obtain ⟨hok, hnum⟩ := Cal.dateF_ok' k1 k2
  have hnr := Cal.numR_ok hok
  rw [hnum] at hnr
  generalize Cal.dateF K = D at *
  obtain ⟨dy, dm, dd⟩ := D
  dsimp only at hnr
  have HDR := Lib.hid hdr
  have HNR := Lib.hid hnr
  clear hwith hK hdr hok hnum hnr
  have hb0 := (Below.refl w.heap.size w).alloc (Nat.le_refl _) (.cells (dcells y m d) 27)
  have hblk0 := Blk.new w 27 (dcells y m d)
  have HB0 := Lib.hid hblk0
  have HL0 := Lib.hid hb0
  clear hblk0 hb0
  have key : (∃ v, Cal.numR y m d = (v, 0) ∧ Cal.dateR v = ((y, m, d), 0)) ∨ (∃ p, Cal.numR y m d = (0, 10) ∧ Cal.dateR 0 = (p, 0)) := by
    by_cases h : 1600 ≤ y ∧ y ≤ 9999 ∧ 1 ≤ d ∧ d ≤ Cal.len y m
    · have hk := Cal.ok_of h
      obtain ⟨r1, r2⟩ := Cal.num_range hk
      refine .inl ⟨_, Cal.numR_ok hk, ?_⟩
      rw [Cal.dateR_in r1 r2, Cal.dateF_eq (Cal.ok_mono hk) rfl]
    · exact .inr ⟨_, Cal.numR_not h, Cal.dateR_in (by omega) (by omega)⟩
  have heq : ∀ v W, Blk W v 27 (dcells y m d) → True := fun _ _ _ => trivial
  clear heq
  rcases key with ⟨v, q1, q2⟩ | ⟨⟨py, pm, pd⟩, q1, q2⟩
  all_goals
    have Q1 := Lib.hid q1
    have Q2 := Lib.hid q2
    clear q1 q2
    go_enter Try.func6, Try.ntmps6
    go_wp2_with fail
    refine HW.out.mono ?_
    rintro e w' ⟨rfl, rfl⟩
    go_wp2_with fail
    refine (date_any K _).mono ?_
    rintro e v1 ⟨rfl, hb1⟩
    rw [HDR.out]
    have hblk1 := (HB0.out.below hb1 HB0.out.lt).alloc (.cells (dcells dy dm dd) 27)
    have hbel1 := (HL0.out.trans (hb1.mono HL0.out.size)).alloc (Nat.le_trans HL0.out.size hb1.size) (.cells (dcells dy dm dd) 27)
    have HX1 := Lib.hid hblk1
    have HL1 := Lib.hid hbel1
    clear hb1 hblk1 hbel1
    go_wp2_with fail
    refine (number_any dy dm dd _).mono ?_
    rintro e v2 ⟨rfl, hb2⟩
    rw [HNR.out]
    have hblk2 := HX1.out.below hb2 HX1.out.lt
    have hbel2 := HL1.out.trans (hb2.mono HL1.out.size)
    have c0 := dcell0 hblk2
    have c1 := dcell1 hblk2
    have c2 := dcell2 hblk2
    have HX2 := Lib.hid hblk2
    have HL2 := Lib.hid hbel2
    clear hb2 hblk2 hbel2 HX1 HL1
    go_wp2_with fail
    refine (number_any y m d _).mono ?_
    rintro e v3 ⟨rfl, hb3⟩
    rw [Q1.out]
    have hblk3 := HX2.out.below hb3 HX2.out.lt
    have hbel3 := HL2.out.trans (hb3.mono HL2.out.size)
    have HX3 := Lib.hid hblk3
    have HL3 := Lib.hid hbel3
    clear hb3 hblk3 hbel3 HX2 HL2 c0 c1 c2
    go_wp2_with fail
    refine (date_any _ _).mono ?_
    rintro e v4 ⟨rfl, hb4⟩
    rw [Q2.out]
    have hblk4 := HX3.out.below hb4 HX3.out.lt
    have hbel4 := HL3.out.trans (hb4.mono HL3.out.size)
    have HX4 := Lib.hid hblk4
    have HL4 := Lib.hid hbel4
    clear hb4 hblk4 hbel4 HX3 HL3
    go_wp2_with fail
    refine (awake02 _).mono ?_
    rintro e v5 ⟨rfl, hb5⟩
    have hblk5 := (HX4.out.alloc _).below hb5 (by have := HX4.out.lt; simp; omega)
    have hnew5 := (Blk.new v4 27 _).below hb5 (by simp)
    have hbel5 := (HL4.out.alloc HL4.out.size _).trans (hb5.mono (by have := HL4.out.size; simp; omega))
    have c0 := dcell0 hblk5
    have c1 := dcell1 hblk5
    have c2 := dcell2 hblk5
    have g0 := hnew5.cell 0
    have g1 := hnew5.cell 1
    have g2 := hnew5.cell 2
    simp only [List.getElem?_toArray, List.getElem?_cons_zero, List.getElem?_cons_succ] at g0 g1 g2
    have HL5 := Lib.hid hbel5
    clear hb5 hblk5 hnew5 hbel5 HX4 HL4 HW HDR HNR Q1 Q2
    go_wp2_with fail
    go_ret
    exact ⟨rfl, HL5.out⟩

end Go.Proofs.Ytbkbeblogfakjaa
