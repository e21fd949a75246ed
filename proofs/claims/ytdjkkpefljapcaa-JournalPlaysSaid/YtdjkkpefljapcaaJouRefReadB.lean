/- The contract of lombardref24.Read where the form is right and the sum is another one. -/
import Derived.Test.YtdjkkpefljapcaaJouRefRead
namespace Go.Proofs.Ytdjkkpefljapcaa
open Go.RowKit
set_option linter.unusedVariables false
set_option linter.unusedSimpArgs false

theorem take4_eq {x l : List Int} (hx : x.length = 48) (hl : l.length = 4) (h : ∀ t : Nat, t < 4 → x.getD t 0 = l.getD t 0) : x.take 4 = l := by
  apply List.ext_getElem (by simp [hx, hl])
  intro i h1 h2
  have := h i (by omega)
  simp only [List.getD, List.getElem?_eq_getElem (show i < x.length by omega), List.getElem?_eq_getElem h2, Option.getD_some] at this
  simpa using this

set_option maxRecDepth 100000 in
set_option maxHeartbeats 4000000 in
theorem refRead_sum (n : Int) (x : List Int) (hx : x.length = 48) (hb : isBytes x) (w : World) (h : headOk n x) (hpad : padOk x) (hsum : ¬ sumOk n x) :
    Calls Try.prog 33 #[.int .i64 n, .agg (bArr x)] w fun e w' => e = .returned (.tuple #[.bool false, .bool false, .slice none 0 0, .int .i64 16]) ∧ Below w.heap.size w w' := by
  have hB := Blk.new w 26 (bArr x)
  have hL := (Below.refl w.heap.size w).alloc (Nat.le_refl _) (.cells (bArr x) 26)
  have hat : ∀ i, i < 48 → (w.alloc (.cells (bArr x) 26)).cell? ⟨w.heap.size, i, none⟩ = some (.int .u8 (x.getD i 0)) := fun i hi => by rw [hB.cell, bArr_get _ _ (by omega)]
  have c4 := hat 4 (by omega)
  have c5 := hat 5 (by omega)
  have c47 := hat 47 (by omega)
  obtain ⟨b40, b41⟩ := hb.getD 4
  obtain ⟨g0, g1, g2, g3, g4, g5, g6⟩ := h
  rw [g2] at c47
  obtain ⟨k, hk⟩ : ∃ k : Nat, x.getD 5 0 = k := ⟨(x.getD 5 0).toNat, by omega⟩
  rw [hk] at c5 g4 g5 g6
  have hp4' : ∀ i : Nat, 6 + k ≤ i → i < 47 → x.getD i 0 = 0 := fun i h => hpad i (by rw [hk, Int.toNat_natCast]; exact h)
  have HL := Lib.hid hL
  have HAT := Lib.hid hat
  have HP4 := Lib.hid hp4'
  have HB0 := Lib.hid hB
  have HBY := Lib.hid hb
  have HSUM := Lib.hid hsum
  clear hat hB hL hb hpad hp4' hsum g2 hk
  generalize x.getD 4 0 = f at *
  have HX := Lib.hid hx
  clear hx
  have d1 : decide (0 ≤ n) = true := decide_eq_true (by omega)
  have d2 : decide (n ≤ 20000) = true := decide_eq_true (by omega)
  have d3 : decide (f ≤ 3) = true := decide_eq_true (by omega)
  have d4 : decide (1 ≤ (k : Int)) = true := decide_eq_true (by omega)
  have d5 : decide ((k : Int) ≤ 41) = true := decide_eq_true (by omega)
  have d6 : (decide (2 ≤ f) = true) ∨ (k = 41 ∧ decide (2 ≤ f) = false) := by
    by_cases hf : 2 ≤ f
    · exact .inl (decide_eq_true hf)
    · exact .inr ⟨by omega, decide_eq_false hf⟩
  rcases d6 with d6 | ⟨hk41, d6⟩
  · clear g6
    go_enter Try.func33, Try.ntmps33
    go_wp2_with fail
    go_loop [10, 11] (fun o i => o = .bool true ∧ ∃ j : Nat, k ≤ j ∧ j ≤ 41 ∧ i = .int .i64 j) (fun _ i => 50 - (intOf i).toNat)
    case atStart => exact ⟨rfl, k, Nat.le_refl _, by omega, rfl⟩
    case round =>
      obtain ⟨rfl, j, hj1, hj2, rfl⟩ := hrel
      by_cases hlt : j < 41
      · have cc := HAT.out (6 + j) (by omega)
        rw [HP4.out (6 + j) (by omega) (by omega)] at cc
        go_wp2_with fail
        go_round
        case rel => exact ⟨rfl, j + 1, by omega, by omega, by go_num⟩
        case measure => simp [intOf]; omega
      · have hj41 : j = 41 := by omega
        subst hj41
        clear hlt hj1 hj2
        go_wp2_with fail
        refine (refsum_any n _ _ _ _ g0 g1 _ (mid_src HB0.out HX.out) (midOf_bytes HBY.out) (by simp)).mono ?_
        rintro e v3 ⟨rfl, hb3⟩
        have hc3 : ∀ i, i < 48 → v3.cell? ⟨w.heap.size, i, none⟩ = some (.int .u8 (x.getD i 0)) := fun i hi => by rw [(HB0.out.below hb3 HB0.out.lt).cell, bArr_get _ _ (by rw [HX.out]; exact hi)]
        have HC := Lib.hid hc3
        have HB3 := Lib.hid (HL.out.trans (hb3.mono (by simp)))
        have hsb := sumV_range n (midOf x)
        have hS : sumOk n x ↔ x.take 4 = hi4 (sumV n (midOf x)) := Iff.rfl
        have HSS := Lib.hid hS
        clear hc3 hb3 hS
        generalize sumV n (midOf x) = s at *
        obtain ⟨hs0, hs1⟩ := hsb
        have hh : hi4 s = [s / 16777216, s / 65536 % 256, s / 256 % 256, s % 256] := by unfold hi4; rw [show s / 16777216 % 256 = s / 16777216 from by omega]
        have HH := Lib.hid hh
        clear hh
        go_wp2_with fail
        go_loop [13] (fun i => ∃ j : Nat, j ≤ 4 ∧ i = .int .i64 j ∧ ∀ t : Nat, t < j → x.getD t 0 = (hi4 s).getD t 0) (fun i => 4 - (intOf i).toNat)
        case atStart => exact ⟨0, by omega, rfl, fun t ht => by omega⟩
        case round =>
          obtain ⟨j, hj, rfl, hall⟩ := hrel
          have HALL := Lib.hid hall
          clear hall c4 c5 c47
          have hjj : j = 0 ∨ j = 1 ∨ j = 2 ∨ j = 3 ∨ j = 4 := by omega
          rcases hjj with rfl | rfl | rfl | rfl | rfl
          · by_cases hz : x.getD 0 0 = s / 16777216
            · have e1 : (x.getD 0 0 != s / 16777216) = false := by simpa using hz
              have cc := HC.out 0 (by omega)
              have hall' : ∀ t : Nat, t < 1 → x.getD t 0 = (hi4 s).getD t 0 := by
                intro t ht
                by_cases htq : t < 0
                · exact HALL.out t htq
                · obtain rfl : t = 0 := by omega
                  rw [hz, HH.out]
                  rfl
              have HALL2 := Lib.hid hall'
              rw [hz] at cc
              clear hz hall' e1
              go_wp2_with fail
              go_round
              case rel => exact ⟨1, by omega, by first | rfl | go_num, HALL2.out⟩
              case measure => (try simp [intOf]) <;> omega
            · have e1 : (x.getD 0 0 != s / 16777216) = true := by simpa using hz
              have cc := HC.out 0 (by omega)
              generalize x.getD 0 0 = xj at cc e1
              clear hz
              go_wp2_with fail
              exact bodyPost_ret (v := .tuple #[.bool false, .bool false, .slice none 0 0, .int .i64 16]) (by simp [results, Try.results33s, go_sem]) rfl ⟨rfl, HB3.out⟩
          · by_cases hz : x.getD 1 0 = s / 65536 % 256
            · have e1 : (x.getD 1 0 != s / 65536 % 256) = false := by simpa using hz
              have cc := HC.out 1 (by omega)
              have hall' : ∀ t : Nat, t < 2 → x.getD t 0 = (hi4 s).getD t 0 := by
                intro t ht
                by_cases htq : t < 1
                · exact HALL.out t htq
                · obtain rfl : t = 1 := by omega
                  rw [hz, HH.out]
                  rfl
              have HALL2 := Lib.hid hall'
              rw [hz] at cc
              clear hz hall' e1
              go_wp2_with fail
              go_round
              case rel => exact ⟨2, by omega, by first | rfl | go_num, HALL2.out⟩
              case measure => (try simp [intOf]) <;> omega
            · have e1 : (x.getD 1 0 != s / 65536 % 256) = true := by simpa using hz
              have cc := HC.out 1 (by omega)
              generalize x.getD 1 0 = xj at cc e1
              clear hz
              go_wp2_with fail
              exact bodyPost_ret (v := .tuple #[.bool false, .bool false, .slice none 0 0, .int .i64 16]) (by simp [results, Try.results33s, go_sem]) rfl ⟨rfl, HB3.out⟩
          · by_cases hz : x.getD 2 0 = s / 256 % 256
            · have e1 : (x.getD 2 0 != s / 256 % 256) = false := by simpa using hz
              have cc := HC.out 2 (by omega)
              have hall' : ∀ t : Nat, t < 3 → x.getD t 0 = (hi4 s).getD t 0 := by
                intro t ht
                by_cases htq : t < 2
                · exact HALL.out t htq
                · obtain rfl : t = 2 := by omega
                  rw [hz, HH.out]
                  rfl
              have HALL2 := Lib.hid hall'
              rw [hz] at cc
              clear hz hall' e1
              go_wp2_with fail
              go_round
              case rel => exact ⟨3, by omega, by first | rfl | go_num, HALL2.out⟩
              case measure => (try simp [intOf]) <;> omega
            · have e1 : (x.getD 2 0 != s / 256 % 256) = true := by simpa using hz
              have cc := HC.out 2 (by omega)
              generalize x.getD 2 0 = xj at cc e1
              clear hz
              go_wp2_with fail
              exact bodyPost_ret (v := .tuple #[.bool false, .bool false, .slice none 0 0, .int .i64 16]) (by simp [results, Try.results33s, go_sem]) rfl ⟨rfl, HB3.out⟩
          · by_cases hz : x.getD 3 0 = s % 256
            · have e1 : (x.getD 3 0 != s % 256) = false := by simpa using hz
              have cc := HC.out 3 (by omega)
              have hall' : ∀ t : Nat, t < 4 → x.getD t 0 = (hi4 s).getD t 0 := by
                intro t ht
                by_cases htq : t < 3
                · exact HALL.out t htq
                · obtain rfl : t = 3 := by omega
                  rw [hz, HH.out]
                  rfl
              have HALL2 := Lib.hid hall'
              rw [hz] at cc
              clear hz hall' e1
              go_wp2_with fail
              go_round
              case rel => exact ⟨4, by omega, by first | rfl | go_num, HALL2.out⟩
              case measure => (try simp [intOf]) <;> omega
            · have e1 : (x.getD 3 0 != s % 256) = true := by simpa using hz
              have cc := HC.out 3 (by omega)
              generalize x.getD 3 0 = xj at cc e1
              clear hz
              go_wp2_with fail
              exact bodyPost_ret (v := .tuple #[.bool false, .bool false, .slice none 0 0, .int .i64 16]) (by simp [results, Try.results33s, go_sem]) rfl ⟨rfl, HB3.out⟩
          · exact absurd (HSS.out.2 (take4_eq HX.out (hi4_len s) HALL.out)) HSUM.out
  · have d7 : ((k : Int) == 41) = true := by simp [hk41]
    clear g6
    go_enter Try.func33, Try.ntmps33
    go_wp2_with fail
    go_loop [10, 11] (fun o i => o = .bool true ∧ ∃ j : Nat, k ≤ j ∧ j ≤ 41 ∧ i = .int .i64 j) (fun _ i => 50 - (intOf i).toNat)
    case atStart => exact ⟨rfl, k, Nat.le_refl _, by omega, by rw [hk41]; rfl⟩
    case round =>
      obtain ⟨rfl, j, hj1, hj2, rfl⟩ := hrel
      by_cases hlt : j < 41
      · exact absurd hlt (by omega)
      · have hj41 : j = 41 := by omega
        subst hj41
        clear hlt hj1 hj2
        go_wp2_with fail
        refine (refsum_any n _ _ _ _ g0 g1 _ (mid_src HB0.out HX.out) (midOf_bytes HBY.out) (by simp)).mono ?_
        rintro e v3 ⟨rfl, hb3⟩
        have hc3 : ∀ i, i < 48 → v3.cell? ⟨w.heap.size, i, none⟩ = some (.int .u8 (x.getD i 0)) := fun i hi => by rw [(HB0.out.below hb3 HB0.out.lt).cell, bArr_get _ _ (by rw [HX.out]; exact hi)]
        have HC := Lib.hid hc3
        have HB3 := Lib.hid (HL.out.trans (hb3.mono (by simp)))
        have hsb := sumV_range n (midOf x)
        have hS : sumOk n x ↔ x.take 4 = hi4 (sumV n (midOf x)) := Iff.rfl
        have HSS := Lib.hid hS
        clear hc3 hb3 hS
        generalize sumV n (midOf x) = s at *
        obtain ⟨hs0, hs1⟩ := hsb
        have hh : hi4 s = [s / 16777216, s / 65536 % 256, s / 256 % 256, s % 256] := by unfold hi4; rw [show s / 16777216 % 256 = s / 16777216 from by omega]
        have HH := Lib.hid hh
        clear hh
        go_wp2_with fail
        go_loop [13] (fun i => ∃ j : Nat, j ≤ 4 ∧ i = .int .i64 j ∧ ∀ t : Nat, t < j → x.getD t 0 = (hi4 s).getD t 0) (fun i => 4 - (intOf i).toNat)
        case atStart => exact ⟨0, by omega, rfl, fun t ht => by omega⟩
        case round =>
          obtain ⟨j, hj, rfl, hall⟩ := hrel
          have HALL := Lib.hid hall
          clear hall c4 c5 c47
          have hjj : j = 0 ∨ j = 1 ∨ j = 2 ∨ j = 3 ∨ j = 4 := by omega
          rcases hjj with rfl | rfl | rfl | rfl | rfl
          · by_cases hz : x.getD 0 0 = s / 16777216
            · have e1 : (x.getD 0 0 != s / 16777216) = false := by simpa using hz
              have cc := HC.out 0 (by omega)
              have hall' : ∀ t : Nat, t < 1 → x.getD t 0 = (hi4 s).getD t 0 := by
                intro t ht
                by_cases htq : t < 0
                · exact HALL.out t htq
                · obtain rfl : t = 0 := by omega
                  rw [hz, HH.out]
                  rfl
              have HALL2 := Lib.hid hall'
              rw [hz] at cc
              clear hz hall' e1
              go_wp2_with fail
              go_round
              case rel => exact ⟨1, by omega, by first | rfl | go_num, HALL2.out⟩
              case measure => (try simp [intOf]) <;> omega
            · have e1 : (x.getD 0 0 != s / 16777216) = true := by simpa using hz
              have cc := HC.out 0 (by omega)
              generalize x.getD 0 0 = xj at cc e1
              clear hz
              go_wp2_with fail
              exact bodyPost_ret (v := .tuple #[.bool false, .bool false, .slice none 0 0, .int .i64 16]) (by simp [results, Try.results33s, go_sem]) rfl ⟨rfl, HB3.out⟩
          · by_cases hz : x.getD 1 0 = s / 65536 % 256
            · have e1 : (x.getD 1 0 != s / 65536 % 256) = false := by simpa using hz
              have cc := HC.out 1 (by omega)
              have hall' : ∀ t : Nat, t < 2 → x.getD t 0 = (hi4 s).getD t 0 := by
                intro t ht
                by_cases htq : t < 1
                · exact HALL.out t htq
                · obtain rfl : t = 1 := by omega
                  rw [hz, HH.out]
                  rfl
              have HALL2 := Lib.hid hall'
              rw [hz] at cc
              clear hz hall' e1
              go_wp2_with fail
              go_round
              case rel => exact ⟨2, by omega, by first | rfl | go_num, HALL2.out⟩
              case measure => (try simp [intOf]) <;> omega
            · have e1 : (x.getD 1 0 != s / 65536 % 256) = true := by simpa using hz
              have cc := HC.out 1 (by omega)
              generalize x.getD 1 0 = xj at cc e1
              clear hz
              go_wp2_with fail
              exact bodyPost_ret (v := .tuple #[.bool false, .bool false, .slice none 0 0, .int .i64 16]) (by simp [results, Try.results33s, go_sem]) rfl ⟨rfl, HB3.out⟩
          · by_cases hz : x.getD 2 0 = s / 256 % 256
            · have e1 : (x.getD 2 0 != s / 256 % 256) = false := by simpa using hz
              have cc := HC.out 2 (by omega)
              have hall' : ∀ t : Nat, t < 3 → x.getD t 0 = (hi4 s).getD t 0 := by
                intro t ht
                by_cases htq : t < 2
                · exact HALL.out t htq
                · obtain rfl : t = 2 := by omega
                  rw [hz, HH.out]
                  rfl
              have HALL2 := Lib.hid hall'
              rw [hz] at cc
              clear hz hall' e1
              go_wp2_with fail
              go_round
              case rel => exact ⟨3, by omega, by first | rfl | go_num, HALL2.out⟩
              case measure => (try simp [intOf]) <;> omega
            · have e1 : (x.getD 2 0 != s / 256 % 256) = true := by simpa using hz
              have cc := HC.out 2 (by omega)
              generalize x.getD 2 0 = xj at cc e1
              clear hz
              go_wp2_with fail
              exact bodyPost_ret (v := .tuple #[.bool false, .bool false, .slice none 0 0, .int .i64 16]) (by simp [results, Try.results33s, go_sem]) rfl ⟨rfl, HB3.out⟩
          · by_cases hz : x.getD 3 0 = s % 256
            · have e1 : (x.getD 3 0 != s % 256) = false := by simpa using hz
              have cc := HC.out 3 (by omega)
              have hall' : ∀ t : Nat, t < 4 → x.getD t 0 = (hi4 s).getD t 0 := by
                intro t ht
                by_cases htq : t < 3
                · exact HALL.out t htq
                · obtain rfl : t = 3 := by omega
                  rw [hz, HH.out]
                  rfl
              have HALL2 := Lib.hid hall'
              rw [hz] at cc
              clear hz hall' e1
              go_wp2_with fail
              go_round
              case rel => exact ⟨4, by omega, by first | rfl | go_num, HALL2.out⟩
              case measure => (try simp [intOf]) <;> omega
            · have e1 : (x.getD 3 0 != s % 256) = true := by simpa using hz
              have cc := HC.out 3 (by omega)
              generalize x.getD 3 0 = xj at cc e1
              clear hz
              go_wp2_with fail
              exact bodyPost_ret (v := .tuple #[.bool false, .bool false, .slice none 0 0, .int .i64 16]) (by simp [results, Try.results33s, go_sem]) rfl ⟨rfl, HB3.out⟩
          · exact absurd (HSS.out.2 (take4_eq HX.out (hi4_len s) HALL.out)) HSUM.out
end Go.Proofs.Ytdjkkpefljapcaa
