/- The contracts of the document's Of and All. -/
import Derived.Test.YtbkbeblogfakjaaCycOf
import Derived.Test.YtbkbeblogfakjaaCycFirst
namespace Go.Proofs.Ytbkbeblogfakjaa
open Go.RowKit
set_option linter.unusedVariables false
set_option linter.unusedSimpArgs false

theorem Cal.findL_ahead' {f c d v : Int} (m : Nat) (h : Cal.lastR f c = (v, 0)) (h1 : f ≤ v) (h2 : d < f) : Cal.findL c d (m + 1) f = ([(f, v)], false) := by
  rw [Cal.findL_end m h (by omega)]
  congr 1
  simp
  intro
  omega

set_option maxRecDepth 100000 in
set_option maxHeartbeats 2000000 in
theorem refOf_any (s c day : Int) (w : World) : Calls Try.prog 33 #[.int .i64 s, .int .i64 c, .int .i64 day] w fun e w' => e = .returned (.tuple #[.int .i64 (Cal.ofR s c day).1, .int .i64 (Cal.ofR s c day).2]) ∧ Below w.heap.size w w' := by
  generalize hO : Cal.ofR s c day = O
  have HO := Lib.hid hO
  clear hO
  go_enter Try.func33, Try.ntmps33
  go_wp2_with fail
  go_loopw [8, 9] (fun x i wr => ∃ (k f : Int) (P : List (Int × Int)), i = .int .i64 k ∧ x = .int .i64 f ∧ 1 ≤ k ∧ k ≤ 301 ∧ (k = 1 → f = s) ∧ (1 < k → f ≤ day ∧ s ≤ day ∧ (Cal.lastR s c).2 = 0) ∧ (k ≤ 300 → Cal.findL c day 300 s = (P ++ (Cal.findL c day (301 - k).toNat f).1, (Cal.findL c day (301 - k).toNat f).2) ∧ (P.length : Int) = k - 1) ∧ (k = 301 → (Cal.findL c day 300 s).2 = false) ∧ Below w.heap.size w wr) (fun _ i _ => (301 - intOf i).toNat)
  case atStart => exact ⟨1, s, [], rfl, rfl, by omega, by omega, fun _ => rfl, by omega, fun _ => ⟨rfl, rfl⟩, by omega, Below.refl _ _⟩
  case round =>
    obtain ⟨k, f, P, rfl, rfl, k1, k2, hs, hm, hfl, hend, hbel⟩ := hrel
    have hsz := hbel.size
    have HB := Lib.hid hbel
    clear hbel
    by_cases hk : k ≤ 300
    · obtain ⟨hfl, hP⟩ := hfl hk
      have hm1 : (301 - k).toNat = (300 - k).toNat + 1 := by omega
      rw [hm1] at hfl
      clear hend hm1
      generalize hL : Cal.lastR f c = L
      obtain ⟨v, er⟩ := L
      have HL := Lib.hid hL
      by_cases he : er = 0
      · subst he
        obtain ⟨y1, y2, y3, y4, y5, y6⟩ := Cal.lastR_inv hL
        obtain ⟨y7, y8⟩ := Cal.lastV_ge (f := f) (cd := c) y1 y2 y3 y4
        rw [← y5] at y7
        clear y5 y8
        by_cases hds : day < s
        · have hk1 : k = 1 := by
            by_cases h : k = 1
            · exact h
            · have := (hm (by omega)).2.1; omega
          have hf := hs hk1
          subst hf
          have hno : Cal.ofR f c day = (0, 10) := Cal.ofR_no hL (by rw [Cal.findL_ahead' 299 hL y7 hds])
          rw [HO.out] at hno
          have HN := Lib.hid hno
          have d1 : decide (day < f) = true := by simpa using hds
          subst hk1
          clear hno hL hfl hm hs hP
          go_wp2_with fail
          refine (refLast_any _ _ _).mono ?_
          rintro e v1 ⟨rfl, hb1⟩
          rw [HL.out]
          have hbe := HB.out.trans (hb1.mono hsz)
          clear hb1
          go_wp2_with fail
          go_ret2
          rw [HN.out]
          exact ⟨rfl, hbe⟩
        · have d1 : decide (day < s) = false := by simp; omega
          have hls : (Cal.lastR s c).2 = 0 := by
            by_cases h : k = 1
            · rw [← hs h, hL]
            · exact (hm (by omega)).2.2
          have hfd : f ≤ day := by
            by_cases h : k = 1
            · have := hs h; omega
            · exact (hm (by omega)).1
          clear hm hs
          have hkk : (k == 1) = true ∨ (k == 1) = false := by cases (k == 1) <;> simp
          by_cases hdv : day ≤ v
          · have d2 : decide (day ≤ v) = true := by simpa using hdv
            rw [Cal.findL_end _ hL (by omega)] at hfl
            have hno : Cal.ofR s c day = (k, 0) := by
              have h1 : Cal.lastR s c = ((Cal.lastR s c).1, 0) := by rw [← hls]
              rw [Cal.ofR_in h1 (by rw [hfl]; simp; omega), hfl]
              simp
              omega
            rw [HO.out] at hno
            have HN := Lib.hid hno
            clear hno hL hfl hls hP
            rcases hkk with d3 | d3 <;>
            · go_wp2_with fail
              refine (refLast_any _ _ _).mono ?_
              rintro e v1 ⟨rfl, hb1⟩
              rw [HL.out]
              have hbe := HB.out.trans (hb1.mono hsz)
              clear hb1
              go_wp2_with fail
              go_ret2
              rw [HN.out]
              exact ⟨rfl, hbe⟩
          · have d2 : decide (day ≤ v) = false := by simp; omega
            have hnext : (k + 1 ≤ 300 → Cal.findL c day 300 s = ((P ++ [(f, v)]) ++ (Cal.findL c day (301 - (k + 1)).toNat (v + 1)).1, (Cal.findL c day (301 - (k + 1)).toNat (v + 1)).2) ∧ ((P ++ [(f, v)]).length : Int) = k + 1 - 1) ∧ (k + 1 = 301 → (Cal.findL c day 300 s).2 = false) := by
              refine ⟨fun h => ⟨?_, by simp; omega⟩, fun h => ?_⟩
              · rw [hfl, Cal.findL_more _ hL (by omega) (by omega), show (300 - k).toNat = (301 - (k + 1)).toNat by omega]
                simp
              · rw [hfl, Cal.findL_end _ hL (by omega)]
                simp
                omega
            have HX := Lib.hid hnext
            have HLS := Lib.hid hls
            clear hL hfl hP hnext hls
            rcases hkk with d3 | d3 <;>
            · go_wp2_with fail
              refine (refLast_any _ _ _).mono ?_
              rintro e v1 ⟨rfl, hb1⟩
              rw [HL.out]
              have hbe := HB.out.trans (hb1.mono hsz)
              clear hb1
              go_wp2_with fail
              go_roundw
              case rel => exact ⟨k + 1, v + 1, P ++ [(f, v)], rfl, rfl, by omega, by omega, by omega, fun _ => ⟨by omega, by omega, HLS.out⟩, HX.out.1, HX.out.2, hbe⟩
              case measure => simp [intOf]; omega
      · have hx : (er != 0) = true := by simpa using he
        by_cases hk1 : k = 1
        · have hf := hs hk1
          subst hf
          have hno := Cal.ofR_last (d := day) hL he
          rw [HO.out] at hno
          have HN := Lib.hid hno
          subst hk1
          clear hno hL hfl hm hs hP
          go_wp2_with fail
          refine (refLast_any _ _ _).mono ?_
          rintro e v1 ⟨rfl, hb1⟩
          rw [HL.out]
          have hbe := HB.out.trans (hb1.mono hsz)
          clear hb1
          go_wp2_with fail
          go_ret2
          rw [HN.out]
          exact ⟨rfl, hbe⟩
        · have d3 : (k == 1) = false := by simpa using hk1
          rw [Cal.findL_err _ hL he] at hfl
          have hls := (hm (by omega)).2.2
          have hno : Cal.ofR s c day = (0, 10) := by
            have h1 : Cal.lastR s c = ((Cal.lastR s c).1, 0) := by rw [← hls]
            exact Cal.ofR_no h1 (by rw [hfl])
          rw [HO.out] at hno
          have HN := Lib.hid hno
          clear hno hL hfl hm hs hP hls
          go_wp2_with fail
          refine (refLast_any _ _ _).mono ?_
          rintro e v1 ⟨rfl, hb1⟩
          rw [HL.out]
          have hbe := HB.out.trans (hb1.mono hsz)
          clear hb1
          go_wp2_with fail
          go_ret2
          rw [HN.out]
          exact ⟨rfl, hbe⟩
    · have hls := (hm (by omega)).2.2
      have hno : Cal.ofR s c day = (0, 10) := by
        have h1 : Cal.lastR s c = ((Cal.lastR s c).1, 0) := by rw [← hls]
        exact Cal.ofR_no h1 (hend (by omega))
      rw [HO.out] at hno
      have HN := Lib.hid hno
      clear hno hfl hm hs hls hend
      go_wp2_with fail
      go_ret2
      rw [HN.out]
      exact ⟨rfl, HB.out⟩
end Go.Proofs.Ytbkbeblogfakjaa
