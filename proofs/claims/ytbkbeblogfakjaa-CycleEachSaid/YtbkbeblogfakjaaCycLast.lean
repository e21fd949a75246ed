/- The contracts of cycle.Last and of the document's Last: each answers what the plain arithmetic says. -/
import Derived.Test.YtbkbeblogfakjaaDayRef
import Derived.Test.YtbkbeblogfakjaaDayDate
import Derived.Test.YtbkbeblogfakjaaCyc
namespace Go.Proofs.Ytbkbeblogfakjaa
open Go.RowKit
set_option linter.unusedVariables false
set_option linter.unusedSimpArgs false

set_option maxRecDepth 100000 in
set_option maxHeartbeats 1000000 in
theorem last_any (f cd : Int) (w : World) : Calls Try.prog 26 #[.int .i64 f, .int .i64 cd] w fun e w' => e = .returned (.tuple #[.int .i64 (Cal.lastR f cd).1, .int .i64 (Cal.lastR f cd).2]) ∧ Below w.heap.size w w' := by
  by_cases h1 : cd < 1
  · rw [Cal.lastR_arg (.inl h1)]
    have d1 : decide (cd < 1) = true := by simp; omega
    go_enter Try.func26, Try.ntmps26
    go_wp2_with fail
    go_ret2
    exact ⟨rfl, Below.refl _ _⟩
  by_cases h2 : 28 < cd
  · rw [Cal.lastR_arg (.inr h2)]
    have d1 : decide (cd < 1) = false := by simp; omega
    have d2 : decide (28 < cd) = true := by simp; omega
    go_enter Try.func26, Try.ntmps26
    go_wp2_with fail
    go_ret2
    exact ⟨rfl, Below.refl _ _⟩
  have d1 : decide (cd < 1) = false := by simp; omega
  have d2 : decide (28 < cd) = false := by simp; omega
  by_cases h3 : -135140 ≤ f ∧ f ≤ 2932896
  · have hd := Cal.dateR_in h3.1 h3.2
    obtain ⟨hok, hn⟩ := Cal.dateF_ok' h3.1 h3.2
    have hl := Cal.len_lo (y := (Cal.dateF f).1) hok.2.2.1 hok.2.2.2.1
    have hlv : Cal.lastV f cd = if f - (Cal.dateF f).2.2 + cd - 1 < f then f - (Cal.dateF f).2.2 + cd - 1 + Cal.len (Cal.dateF f).1 (Cal.dateF f).2.1 else f - (Cal.dateF f).2.2 + cd - 1 := rfl
    have hlr1 := fun h => Cal.lastR_late (f := f) (cd := cd) (by omega) h3 h
    have hlr2 := fun h => Cal.lastR_ok (f := f) (cd := cd) (by omega) h3 h
    generalize Cal.dateF f = D at *
    obtain ⟨y, m, d⟩ := D
    dsimp only at *
    obtain ⟨l1, l2⟩ := hl
    have a := hok.2.2.2.2.1
    have b := hok.2.2.2.2.2
    obtain ⟨f1, f2⟩ := h3
    have HD := Lib.hid hd
    clear hd hok hn
    by_cases h4 : f - d + cd - 1 < f
    · rw [if_pos h4] at hlv
      by_cases h5 : 2932896 < f - d + cd - 1 + Cal.len y m
      · have hr := hlr1 (by omega)
        have HR := Lib.hid hr
        clear hr hlr1 hlr2 hlv
        go_enter Try.func26, Try.ntmps26
        go_wp2_with fail
        refine (date_any f _).mono ?_
        rintro e v1 ⟨rfl, hb1⟩
        rw [HD.out]
        go_wp2_with fail
        refine (length_any y m _).mono ?_
        rintro e w' ⟨rfl, rfl⟩
        go_wp2_with fail
        go_ret2
        rw [HR.out]
        exact ⟨rfl, hb1.alloc hb1.size _⟩
      · have hr := hlr2 (by omega)
        rw [hlv] at hr
        have HR := Lib.hid hr
        clear hr hlr1 hlr2 hlv
        go_enter Try.func26, Try.ntmps26
        go_wp2_with fail
        refine (date_any f _).mono ?_
        rintro e v1 ⟨rfl, hb1⟩
        rw [HD.out]
        go_wp2_with fail
        refine (length_any y m _).mono ?_
        rintro e w' ⟨rfl, rfl⟩
        go_wp2_with fail
        go_ret2
        rw [HR.out]
        exact ⟨rfl, hb1.alloc hb1.size _⟩
    · rw [if_neg h4] at hlv
      by_cases h5 : 2932896 < f - d + cd - 1
      · have hr := hlr1 (by omega)
        have HR := Lib.hid hr
        clear hr hlr1 hlr2 hlv
        go_enter Try.func26, Try.ntmps26
        go_wp2_with fail
        refine (date_any f _).mono ?_
        rintro e v1 ⟨rfl, hb1⟩
        rw [HD.out]
        go_wp2_with fail
        go_ret2
        rw [HR.out]
        exact ⟨rfl, hb1.alloc hb1.size _⟩
      · have hr := hlr2 (by omega)
        rw [hlv] at hr
        have HR := Lib.hid hr
        clear hr hlr1 hlr2 hlv
        go_enter Try.func26, Try.ntmps26
        go_wp2_with fail
        refine (date_any f _).mono ?_
        rintro e v1 ⟨rfl, hb1⟩
        rw [HD.out]
        go_wp2_with fail
        go_ret2
        rw [HR.out]
        exact ⟨rfl, hb1.alloc hb1.size _⟩
  · have hd := Cal.dateR_out h3
    have HD := Lib.hid hd
    rw [Cal.lastR_out (by omega) h3]
    clear hd h3
    go_enter Try.func26, Try.ntmps26
    go_wp2_with fail
    refine (date_any f _).mono ?_
    rintro e v1 ⟨rfl, hb1⟩
    rw [HD.out]
    go_wp2_with fail
    go_ret2
    exact ⟨rfl, hb1.alloc hb1.size _⟩

set_option maxRecDepth 100000 in
set_option maxHeartbeats 4000000 in
theorem refLast_any (f cd : Int) (w : World) : Calls Try.prog 27 #[.int .i64 f, .int .i64 cd] w fun e w' => e = .returned (.tuple #[.int .i64 (Cal.lastR f cd).1, .int .i64 (Cal.lastR f cd).2]) ∧ Below w.heap.size w w' := by
  by_cases h1 : cd < 1
  · rw [Cal.lastR_arg (.inl h1)]
    have d1 : decide (cd < 1) = true := by simp; omega
    go_enter Try.func27, Try.ntmps27
    go_wp2_with fail
    go_ret2
    exact ⟨rfl, Below.refl _ _⟩
  by_cases h2 : 28 < cd
  · rw [Cal.lastR_arg (.inr h2)]
    have d1 : decide (cd < 1) = false := by simp; omega
    have d2 : decide (28 < cd) = true := by simp; omega
    go_enter Try.func27, Try.ntmps27
    go_wp2_with fail
    go_ret2
    exact ⟨rfl, Below.refl _ _⟩
  have d1 : decide (cd < 1) = false := by simp; omega
  have d2 : decide (28 < cd) = false := by simp; omega
  by_cases h3 : f < -135140
  · rw [Cal.lastR_out (by omega) (by omega)]
    have d3 : decide (f < -135140) = true := by simp; omega
    go_enter Try.func27, Try.ntmps27
    go_wp2_with fail
    go_ret2
    exact ⟨rfl, Below.refl _ _⟩
  by_cases h4 : 2932896 < f
  · rw [Cal.lastR_out (by omega) (by omega)]
    have d3 : decide (f < -135140) = false := by simp; omega
    have d4 : decide (2932896 < f) = true := by simp; omega
    go_enter Try.func27, Try.ntmps27
    go_wp2_with fail
    go_ret2
    exact ⟨rfl, Below.refl _ _⟩
  have d3 : decide (f < -135140) = false := by simp; omega
  have d4 : decide (2932896 < f) = false := by simp; omega
  obtain ⟨g1, g2⟩ := Cal.lastV_ge (f := f) (cd := cd) (by omega) (by omega) (by omega) (by omega)
  have hiff := fun n h5 h6 => Cal.day_iff (f := f) (cd := cd) (n := n) (by omega) (by omega) (by omega) (by omega) h5 h6
  have hlr1 := fun h => Cal.lastR_late (f := f) (cd := cd) (by omega) (by omega) h
  have hlr2 := fun h => Cal.lastR_ok (f := f) (cd := cd) (by omega) (by omega) h
  generalize Cal.lastV f cd = L at *
  have HI := Lib.hid hiff
  have H1 := Lib.hid hlr1
  have H2 := Lib.hid hlr2
  clear hiff hlr1 hlr2
  go_enter Try.func27, Try.ntmps27
  go_wp2_with fail
  go_loopw [6] (fun i wr => ∃ n : Int, i = .int .i64 n ∧ f ≤ n ∧ n ≤ L ∧ n ≤ 2932897 ∧ Below w.heap.size w wr) (fun i _ => (2932897 - intOf i).toNat)
  case atStart => exact ⟨f, rfl, by omega, g1, by omega, Below.refl _ _⟩
  case round =>
    obtain ⟨n, rfl, n1, n2, n3, hbel⟩ := hrel
    have hsz := hbel.size
    by_cases hlt : n ≤ 2932896
    · have hi := HI.out n n1 n2
      by_cases hend : n = 2932896
      · subst hend
        have hdr : Cal.dateR 2932897 = ((0, 0, 0), 10) := Cal.dateR_out (by omega)
        have hdl : (Cal.dateF (2932896 + 1)).2.2 = 1 := by
          show (Cal.dateF 2932897).2.2 = 1
          rw [Cal.dateF_last]
        rw [hdl] at hi
        have HDR := Lib.hid hdr
        clear hdr hdl
        by_cases hc : 1 = cd
        · have hL : 2932896 = L := hi.1 hc
          have hr := H2.out (by omega)
          rw [← hL] at hr
          have HR := Lib.hid hr
          subst hc
          clear hi hL hr H1 H2 HI
          go_wp2_with fail
          refine (refDate_any _ _).mono ?_
          rintro e v1 ⟨rfl, hb1⟩
          rw [HDR.out]
          have hsz1 := hb1.size
          go_wp2_with fail
          go_ret2
          rw [HR.out]
          refine ⟨rfl, ?_⟩
          exact (hbel.trans (hb1.mono hsz)).alloc (by omega) _
        · have hL : ¬ 2932896 = L := fun h => hc (hi.2 h)
          have hcb : ((1 : Int) == cd) = false := by simp [hc]
          clear hi
          go_wp2_with fail
          refine (refDate_any _ _).mono ?_
          rintro e v1 ⟨rfl, hb1⟩
          rw [HDR.out]
          have hsz1 := hb1.size
          go_wp2_with fail
          go_roundw
          case rel => exact ⟨2932897, rfl, by omega, by omega, by omega, (hbel.trans (hb1.mono hsz)).alloc (by omega) _⟩
          case measure => simp [intOf]
      · have hdr := Cal.dateR_in (n := n + 1) (by omega) (by omega)
        generalize Cal.dateF (n + 1) = D at *
        obtain ⟨y, m, d⟩ := D
        dsimp only at hi
        have HDR := Lib.hid hdr
        clear hdr
        by_cases hc : d = cd
        · have hL : n = L := hi.1 hc
          have hr := H2.out (by omega)
          rw [← hL] at hr
          have HR := Lib.hid hr
          have hcb : (d == cd) = true := by simp [hc]
          clear hi hL hr H1 H2 HI hc
          go_wp2_with fail
          refine (refDate_any _ _).mono ?_
          rintro e v1 ⟨rfl, hb1⟩
          rw [HDR.out]
          have hsz1 := hb1.size
          go_wp2_with fail
          go_ret2
          rw [HR.out]
          exact ⟨rfl, (hbel.trans (hb1.mono hsz)).alloc (by omega) _⟩
        · have hL : ¬ n = L := fun h => hc (hi.2 h)
          have hcb : (d == cd) = false := by simp [hc]
          clear hi hc
          go_wp2_with fail
          refine (refDate_any _ _).mono ?_
          rintro e v1 ⟨rfl, hb1⟩
          rw [HDR.out]
          have hsz1 := hb1.size
          go_wp2_with fail
          go_roundw
          case rel => exact ⟨n + 1, rfl, by omega, by omega, by omega, (hbel.trans (hb1.mono hsz)).alloc (by omega) _⟩
          case measure => simp [intOf]; omega
    · have hr := H1.out (by omega)
      have HR := Lib.hid hr
      clear hr H1 H2 HI
      go_wp2_with fail
      go_ret2
      rw [HR.out]
      exact ⟨rfl, hbel⟩
end Go.Proofs.Ytbkbeblogfakjaa
