/- The contract of lombardref24.Read where a leaf is read. -/
import Derived.Test.YtdjkkpefljapcaaJouRefReadB
import Derived.Test.YtdjkkpefljapcaaJouReadD
import Derived.Deep.RegionHeld3
import Derived.IntWalk
namespace Go.Proofs.Ytdjkkpefljapcaa
open Go.RowKit
set_option linter.unusedVariables false
set_option linter.unusedSimpArgs false

set_option maxRecDepth 100000 in
set_option maxHeartbeats 4000000 in
theorem refRead_good (n : Int) (x : List Int) (hx : x.length = 48) (hb : isBytes x) (w : World) (h : headOk n x) (hpad : padOk x) (hsum : sumOk n x) :
    Calls Try.prog 33 #[.int .i64 n, .agg (bArr x)] w fun e w' => ReadGood x w e w' := by
  have hB := Blk.new w 26 (bArr x)
  have hL := (Below.refl w.heap.size w).alloc (Nat.le_refl _) (.cells (bArr x) 26)
  have hat : ∀ i, i < 48 → (w.alloc (.cells (bArr x) 26)).cell? ⟨w.heap.size, i, none⟩ = some (.int .u8 (x.getD i 0)) := fun i hi => by rw [hB.cell, bArr_get _ _ (by omega)]
  have c4 := hat 4 (by omega)
  have c5 := hat 5 (by omega)
  have c47 := hat 47 (by omega)
  obtain ⟨b40, b41⟩ := hb.getD 4
  obtain ⟨g0, g1, g2, g3, g4, g5, g6⟩ := h
  rw [g2] at c47
  obtain ⟨k, hk⟩ : ∃ k : Nat, x.getD 5 0 = k := ⟨(x.getD 5 0).toNat, by omega⟩
  rw [hk] at c5 g4 g5 g6
  have hp4' : ∀ i : Nat, 6 + k ≤ i → i < 47 → x.getD i 0 = 0 := fun i h => hpad i (by rw [hk, Int.toNat_natCast]; exact h)
  have HL := Lib.hid hL
  have HAT := Lib.hid hat
  have HP4 := Lib.hid hp4'
  have HB0 := Lib.hid hB
  have HBY := Lib.hid hb
  have HSUM := Lib.hid hsum
  have HK := Lib.hid hk
  clear hat hB hL hb hpad hp4' hsum g2 hk
  generalize hff : x.getD 4 0 = f at *
  have HFF := Lib.hid hff
  clear hff
  have HX := Lib.hid hx
  clear hx
  have d1 : decide (0 ≤ n) = true := decide_eq_true (by omega)
  have d2 : decide (n ≤ 20000) = true := decide_eq_true (by omega)
  have d3 : decide (f ≤ 3) = true := decide_eq_true (by omega)
  have d4 : decide (1 ≤ (k : Int)) = true := decide_eq_true (by omega)
  have d5 : decide ((k : Int) ≤ 41) = true := decide_eq_true (by omega)
  have d6 : (decide (2 ≤ f) = true) ∨ (k = 41 ∧ decide (2 ≤ f) = false) := by
    by_cases hf : 2 ≤ f
    · exact .inl (decide_eq_true hf)
    · exact .inr ⟨by omega, decide_eq_false hf⟩
  rcases d6 with d6 | ⟨hk41, d6⟩
  · clear g6
    go_enter Try.func33, Try.ntmps33
    go_wp2_with fail
    go_loop [10, 11] (fun o i => o = .bool true ∧ ∃ j : Nat, k ≤ j ∧ j ≤ 41 ∧ i = .int .i64 j) (fun _ i => 50 - (intOf i).toNat)
    case atStart => exact ⟨rfl, k, Nat.le_refl _, by omega, rfl⟩
    case round =>
      obtain ⟨rfl, j, hj1, hj2, rfl⟩ := hrel
      by_cases hlt : j < 41
      · have cc := HAT.out (6 + j) (by omega)
        rw [HP4.out (6 + j) (by omega) (by omega)] at cc
        go_wp2_with fail
        go_round
        case rel => exact ⟨rfl, j + 1, by omega, by omega, by go_num⟩
        case measure => simp [intOf]; omega
      · have hj41 : j = 41 := by omega
        subst hj41
        clear hlt hj1 hj2
        go_wp2_with fail
        refine (refsum_any n _ _ _ _ g0 g1 _ (mid_src HB0.out HX.out) (midOf_bytes HBY.out) (by simp)).mono ?_
        rintro e v3 ⟨rfl, hb3⟩
        have hc3 : ∀ i, i < 48 → v3.cell? ⟨w.heap.size, i, none⟩ = some (.int .u8 (x.getD i 0)) := fun i hi => by rw [(HB0.out.below hb3 HB0.out.lt).cell, bArr_get _ _ (by rw [HX.out]; exact hi)]
        have HC := Lib.hid hc3
        have HBLK := Lib.hid (HB0.out.below hb3 HB0.out.lt)
        have HB3 := Lib.hid (HL.out.trans (hb3.mono (by simp)))
        have hsb := sumV_range n (midOf x)
        have hS : sumOk n x ↔ x.take 4 = hi4 (sumV n (midOf x)) := Iff.rfl
        have HSS := Lib.hid hS
        clear hc3 hb3 hS
        generalize sumV n (midOf x) = s at *
        obtain ⟨hs0, hs1⟩ := hsb
        have hh : hi4 s = [s / 16777216, s / 65536 % 256, s / 256 % 256, s % 256] := by unfold hi4; rw [show s / 16777216 % 256 = s / 16777216 from by omega]
        have HH := Lib.hid hh
        clear hh
        go_wp2_with fail
        have hx4 : x.take 4 = hi4 s := HSS.out.1 HSUM.out
        have HX4 := Lib.hid hx4
        clear hx4
        have hsel : ∀ t : Nat, t < 4 → x.getD t 0 = (hi4 s).getD t 0 := fun t ht => by
          rw [← HX4.out]
          simp [List.getD, List.getElem?_take_of_lt ht]
        have HSEL := Lib.hid hsel
        clear hsel
        have c4' := HC.out 4 (by omega)
        rw [HFF.out] at c4'
        have C4 := Lib.hid c4'
        clear c4' c4 c5 c47
        go_loop [13] (fun i => ∃ j : Nat, j ≤ 4 ∧ i = .int .i64 j) (fun i => 4 - (intOf i).toNat)
        case atStart => exact ⟨0, by omega, rfl⟩
        case round =>
          obtain ⟨j, hj, rfl⟩ := hrel
          have hjj : j = 0 ∨ j = 1 ∨ j = 2 ∨ j = 3 ∨ j = 4 := by omega
          rcases hjj with rfl | rfl | rfl | rfl | rfl
          · have cc := HC.out 0 (by omega)
            rw [HSEL.out 0 (by omega), HH.out] at cc
            change _ = some (Value.int .u8 (s / 16777216)) at cc
            go_wp2_with fail
            go_round
            case rel => exact ⟨1, by omega, by first | rfl | go_num⟩
            case measure => (try simp [intOf]) <;> omega
          · have cc := HC.out 1 (by omega)
            rw [HSEL.out 1 (by omega), HH.out] at cc
            change _ = some (Value.int .u8 (s / 65536 % 256)) at cc
            go_wp2_with fail
            go_round
            case rel => exact ⟨2, by omega, by first | rfl | go_num⟩
            case measure => (try simp [intOf]) <;> omega
          · have cc := HC.out 2 (by omega)
            rw [HSEL.out 2 (by omega), HH.out] at cc
            change _ = some (Value.int .u8 (s / 256 % 256)) at cc
            go_wp2_with fail
            go_round
            case rel => exact ⟨3, by omega, by first | rfl | go_num⟩
            case measure => (try simp [intOf]) <;> omega
          · have cc := HC.out 3 (by omega)
            rw [HSEL.out 3 (by omega), HH.out] at cc
            change _ = some (Value.int .u8 (s % 256)) at cc
            go_wp2_with fail
            go_round
            case rel => exact ⟨4, by omega, by first | rfl | go_num⟩
            case measure => (try simp [intOf]) <;> omega
          · have c4 := C4.out
            have hf : f = 0 ∨ f = 1 ∨ f = 2 ∨ f = 3 := by omega
            have hsl := slice26_lh w.heap.size k (by omega)
            have hwr : IntKind.i64.wrap (6 + (k : Int)) = 6 + (k : Int) := IntWalk.i64_in _ (by omega)
            have hnum : ∀ wq, Blk wq w.heap.size 26 (bArr x) → Nums .u8 wq (w.heap.size + 1) (some ⟨w.heap.size, 6, none⟩) k (partOf x) := fun wq hq => by
              have := sub_src hq 6 k (by rw [HX.out]; omega)
              unfold partOf
              rw [HK.out, Int.toNat_natCast]
              exact this
            have HNUM := Lib.hid hnum
            clear hnum
            have hk1 : 1 ≤ k := by omega
            have hk2 : k ≤ 100000 := by omega
            go_wp2_with fail
            rcases hf with rfl | rfl | rfl | rfl
            · go_region_held3 (fun w' => w'.cell? ⟨w.heap.size, 4, none⟩ = some (.int .u8 0)) (go_keep)
                (first | (go_at_call 42; refine (copyB_any ⟨w.heap.size, 6, none⟩ k 42 (w.heap.size + 1) (partOf x) _ (HNUM.out _ (HBLK.out.below (Below.refl _ _).drew HBLK.out.lt)) hk1 hk2).mono ?_; rintro e v4 ⟨v, rfl, how, hb4⟩; have c4q := (hb4.cell (p := ⟨w.heap.size, 4, none⟩) HBLK.out.lt).trans c4))
              go_wp2_with fail
              refine bodyPost_ret (v := .tuple #[.bool _, .bool _, v, .int .i64 0]) (by simp [results, Try.results33s, go_sem]; exact ⟨rfl, rfl⟩) rfl ⟨v, ?_, own_base how (Nat.le_of_lt HBLK.out.lt), HB3.out.trans ((Below.refl _ _).drew.trans (hb4.mono (Nat.le_of_lt HBLK.out.lt)))⟩
              first | exact absurd d6 (by decide) | (rw [HFF.out]; rfl)
            · go_region_held3 (fun w' => w'.cell? ⟨w.heap.size, 4, none⟩ = some (.int .u8 1)) (go_keep)
                (first | (go_at_call 42; refine (copyB_any ⟨w.heap.size, 6, none⟩ k 42 (w.heap.size + 1) (partOf x) _ (HNUM.out _ (HBLK.out.below (Below.refl _ _).drew HBLK.out.lt)) hk1 hk2).mono ?_; rintro e v4 ⟨v, rfl, how, hb4⟩; have c4q := (hb4.cell (p := ⟨w.heap.size, 4, none⟩) HBLK.out.lt).trans c4))
              go_wp2_with fail
              refine bodyPost_ret (v := .tuple #[.bool _, .bool _, v, .int .i64 0]) (by simp [results, Try.results33s, go_sem]; exact ⟨rfl, rfl⟩) rfl ⟨v, ?_, own_base how (Nat.le_of_lt HBLK.out.lt), HB3.out.trans ((Below.refl _ _).drew.trans (hb4.mono (Nat.le_of_lt HBLK.out.lt)))⟩
              first | exact absurd d6 (by decide) | (rw [HFF.out]; rfl)
            · go_region_held3 (fun w' => w'.cell? ⟨w.heap.size, 4, none⟩ = some (.int .u8 2)) (go_keep)
                (first | (go_at_call 42; refine (copyB_any ⟨w.heap.size, 6, none⟩ k 42 (w.heap.size + 1) (partOf x) _ (HNUM.out _ (HBLK.out.below (Below.refl _ _).drew HBLK.out.lt)) hk1 hk2).mono ?_; rintro e v4 ⟨v, rfl, how, hb4⟩; have c4q := (hb4.cell (p := ⟨w.heap.size, 4, none⟩) HBLK.out.lt).trans c4))
              go_wp2_with fail
              refine bodyPost_ret (v := .tuple #[.bool _, .bool _, v, .int .i64 0]) (by simp [results, Try.results33s, go_sem]; exact ⟨rfl, rfl⟩) rfl ⟨v, ?_, own_base how (Nat.le_of_lt HBLK.out.lt), HB3.out.trans ((Below.refl _ _).drew.trans (hb4.mono (Nat.le_of_lt HBLK.out.lt)))⟩
              first | exact absurd d6 (by decide) | (rw [HFF.out]; rfl)
            · go_region_held3 (fun w' => w'.cell? ⟨w.heap.size, 4, none⟩ = some (.int .u8 3)) (go_keep)
                (first | (go_at_call 42; refine (copyB_any ⟨w.heap.size, 6, none⟩ k 42 (w.heap.size + 1) (partOf x) _ (HNUM.out _ (HBLK.out.below (Below.refl _ _).drew HBLK.out.lt)) hk1 hk2).mono ?_; rintro e v4 ⟨v, rfl, how, hb4⟩; have c4q := (hb4.cell (p := ⟨w.heap.size, 4, none⟩) HBLK.out.lt).trans c4))
              go_wp2_with fail
              refine bodyPost_ret (v := .tuple #[.bool _, .bool _, v, .int .i64 0]) (by simp [results, Try.results33s, go_sem]; exact ⟨rfl, rfl⟩) rfl ⟨v, ?_, own_base how (Nat.le_of_lt HBLK.out.lt), HB3.out.trans ((Below.refl _ _).drew.trans (hb4.mono (Nat.le_of_lt HBLK.out.lt)))⟩
              first | exact absurd d6 (by decide) | (rw [HFF.out]; rfl)
  · have d7 : ((k : Int) == 41) = true := by simp [hk41]
    clear g6
    go_enter Try.func33, Try.ntmps33
    go_wp2_with fail
    go_loop [10, 11] (fun o i => o = .bool true ∧ ∃ j : Nat, k ≤ j ∧ j ≤ 41 ∧ i = .int .i64 j) (fun _ i => 50 - (intOf i).toNat)
    case atStart => exact ⟨rfl, k, Nat.le_refl _, by omega, by rw [hk41]; rfl⟩
    case round =>
      obtain ⟨rfl, j, hj1, hj2, rfl⟩ := hrel
      by_cases hlt : j < 41
      · exact absurd hlt (by omega)
      · have hj41 : j = 41 := by omega
        subst hj41
        clear hlt hj1 hj2
        go_wp2_with fail
        refine (refsum_any n _ _ _ _ g0 g1 _ (mid_src HB0.out HX.out) (midOf_bytes HBY.out) (by simp)).mono ?_
        rintro e v3 ⟨rfl, hb3⟩
        have hc3 : ∀ i, i < 48 → v3.cell? ⟨w.heap.size, i, none⟩ = some (.int .u8 (x.getD i 0)) := fun i hi => by rw [(HB0.out.below hb3 HB0.out.lt).cell, bArr_get _ _ (by rw [HX.out]; exact hi)]
        have HC := Lib.hid hc3
        have HBLK := Lib.hid (HB0.out.below hb3 HB0.out.lt)
        have HB3 := Lib.hid (HL.out.trans (hb3.mono (by simp)))
        have hsb := sumV_range n (midOf x)
        have hS : sumOk n x ↔ x.take 4 = hi4 (sumV n (midOf x)) := Iff.rfl
        have HSS := Lib.hid hS
        clear hc3 hb3 hS
        generalize sumV n (midOf x) = s at *
        obtain ⟨hs0, hs1⟩ := hsb
        have hh : hi4 s = [s / 16777216, s / 65536 % 256, s / 256 % 256, s % 256] := by unfold hi4; rw [show s / 16777216 % 256 = s / 16777216 from by omega]
        have HH := Lib.hid hh
        clear hh
        go_wp2_with fail
        have hx4 : x.take 4 = hi4 s := HSS.out.1 HSUM.out
        have HX4 := Lib.hid hx4
        clear hx4
        have hsel : ∀ t : Nat, t < 4 → x.getD t 0 = (hi4 s).getD t 0 := fun t ht => by
          rw [← HX4.out]
          simp [List.getD, List.getElem?_take_of_lt ht]
        have HSEL := Lib.hid hsel
        clear hsel
        have c4' := HC.out 4 (by omega)
        rw [HFF.out] at c4'
        have C4 := Lib.hid c4'
        clear c4' c4 c5 c47
        go_loop [13] (fun i => ∃ j : Nat, j ≤ 4 ∧ i = .int .i64 j) (fun i => 4 - (intOf i).toNat)
        case atStart => exact ⟨0, by omega, rfl⟩
        case round =>
          obtain ⟨j, hj, rfl⟩ := hrel
          have hjj : j = 0 ∨ j = 1 ∨ j = 2 ∨ j = 3 ∨ j = 4 := by omega
          rcases hjj with rfl | rfl | rfl | rfl | rfl
          · have cc := HC.out 0 (by omega)
            rw [HSEL.out 0 (by omega), HH.out] at cc
            change _ = some (Value.int .u8 (s / 16777216)) at cc
            go_wp2_with fail
            go_round
            case rel => exact ⟨1, by omega, by first | rfl | go_num⟩
            case measure => (try simp [intOf]) <;> omega
          · have cc := HC.out 1 (by omega)
            rw [HSEL.out 1 (by omega), HH.out] at cc
            change _ = some (Value.int .u8 (s / 65536 % 256)) at cc
            go_wp2_with fail
            go_round
            case rel => exact ⟨2, by omega, by first | rfl | go_num⟩
            case measure => (try simp [intOf]) <;> omega
          · have cc := HC.out 2 (by omega)
            rw [HSEL.out 2 (by omega), HH.out] at cc
            change _ = some (Value.int .u8 (s / 256 % 256)) at cc
            go_wp2_with fail
            go_round
            case rel => exact ⟨3, by omega, by first | rfl | go_num⟩
            case measure => (try simp [intOf]) <;> omega
          · have cc := HC.out 3 (by omega)
            rw [HSEL.out 3 (by omega), HH.out] at cc
            change _ = some (Value.int .u8 (s % 256)) at cc
            go_wp2_with fail
            go_round
            case rel => exact ⟨4, by omega, by first | rfl | go_num⟩
            case measure => (try simp [intOf]) <;> omega
          · have c4 := C4.out
            have hf : f = 0 ∨ f = 1 ∨ f = 2 ∨ f = 3 := by omega
            subst hk41
            have hsl := slice26_lh w.heap.size 41 (by omega)
            rw [show (6 : Int) + ((41 : Nat) : Int) = 47 from rfl] at hsl
            have hwr : IntKind.i64.wrap 47 = 47 := IntWalk.i64_in _ (by omega)
            have hnum : ∀ wq, Blk wq w.heap.size 26 (bArr x) → Nums .u8 wq (w.heap.size + 1) (some ⟨w.heap.size, 6, none⟩) 41 (partOf x) := fun wq hq => by
              have := sub_src hq 6 41 (by rw [HX.out]; omega)
              unfold partOf
              rw [HK.out, Int.toNat_natCast]
              exact this
            have HNUM := Lib.hid hnum
            clear hnum
            have hk1 : 1 ≤ 41 := by omega
            have hk2 : 41 ≤ 100000 := by omega
            go_wp2_with fail
            rcases hf with rfl | rfl | rfl | rfl
            · go_region_held3 (fun w' => w'.cell? ⟨w.heap.size, 4, none⟩ = some (.int .u8 0)) (go_keep)
                (first | (go_at_call 42; refine (copyB_any ⟨w.heap.size, 6, none⟩ 41 42 (w.heap.size + 1) (partOf x) _ (HNUM.out _ (HBLK.out.below (Below.refl _ _).drew HBLK.out.lt)) hk1 hk2).mono ?_; rintro e v4 ⟨v, rfl, how, hb4⟩; have c4q := (hb4.cell (p := ⟨w.heap.size, 4, none⟩) HBLK.out.lt).trans c4))
              go_wp2_with fail
              refine bodyPost_ret (v := .tuple #[.bool _, .bool _, v, .int .i64 0]) (by simp [results, Try.results33s, go_sem]; exact ⟨rfl, rfl⟩) rfl ⟨v, ?_, own_base how (Nat.le_of_lt HBLK.out.lt), HB3.out.trans ((Below.refl _ _).drew.trans (hb4.mono (Nat.le_of_lt HBLK.out.lt)))⟩
              first | exact absurd d6 (by decide) | (rw [HFF.out]; rfl)
            · go_region_held3 (fun w' => w'.cell? ⟨w.heap.size, 4, none⟩ = some (.int .u8 1)) (go_keep)
                (first | (go_at_call 42; refine (copyB_any ⟨w.heap.size, 6, none⟩ 41 42 (w.heap.size + 1) (partOf x) _ (HNUM.out _ (HBLK.out.below (Below.refl _ _).drew HBLK.out.lt)) hk1 hk2).mono ?_; rintro e v4 ⟨v, rfl, how, hb4⟩; have c4q := (hb4.cell (p := ⟨w.heap.size, 4, none⟩) HBLK.out.lt).trans c4))
              go_wp2_with fail
              refine bodyPost_ret (v := .tuple #[.bool _, .bool _, v, .int .i64 0]) (by simp [results, Try.results33s, go_sem]; exact ⟨rfl, rfl⟩) rfl ⟨v, ?_, own_base how (Nat.le_of_lt HBLK.out.lt), HB3.out.trans ((Below.refl _ _).drew.trans (hb4.mono (Nat.le_of_lt HBLK.out.lt)))⟩
              first | exact absurd d6 (by decide) | (rw [HFF.out]; rfl)
            · go_region_held3 (fun w' => w'.cell? ⟨w.heap.size, 4, none⟩ = some (.int .u8 2)) (go_keep)
                (first | (go_at_call 42; refine (copyB_any ⟨w.heap.size, 6, none⟩ 41 42 (w.heap.size + 1) (partOf x) _ (HNUM.out _ (HBLK.out.below (Below.refl _ _).drew HBLK.out.lt)) hk1 hk2).mono ?_; rintro e v4 ⟨v, rfl, how, hb4⟩; have c4q := (hb4.cell (p := ⟨w.heap.size, 4, none⟩) HBLK.out.lt).trans c4))
              go_wp2_with fail
              refine bodyPost_ret (v := .tuple #[.bool _, .bool _, v, .int .i64 0]) (by simp [results, Try.results33s, go_sem]; exact ⟨rfl, rfl⟩) rfl ⟨v, ?_, own_base how (Nat.le_of_lt HBLK.out.lt), HB3.out.trans ((Below.refl _ _).drew.trans (hb4.mono (Nat.le_of_lt HBLK.out.lt)))⟩
              first | exact absurd d6 (by decide) | (rw [HFF.out]; rfl)
            · go_region_held3 (fun w' => w'.cell? ⟨w.heap.size, 4, none⟩ = some (.int .u8 3)) (go_keep)
                (first | (go_at_call 42; refine (copyB_any ⟨w.heap.size, 6, none⟩ 41 42 (w.heap.size + 1) (partOf x) _ (HNUM.out _ (HBLK.out.below (Below.refl _ _).drew HBLK.out.lt)) hk1 hk2).mono ?_; rintro e v4 ⟨v, rfl, how, hb4⟩; have c4q := (hb4.cell (p := ⟨w.heap.size, 4, none⟩) HBLK.out.lt).trans c4))
              go_wp2_with fail
              refine bodyPost_ret (v := .tuple #[.bool _, .bool _, v, .int .i64 0]) (by simp [results, Try.results33s, go_sem]; exact ⟨rfl, rfl⟩) rfl ⟨v, ?_, own_base how (Nat.le_of_lt HBLK.out.lt), HB3.out.trans ((Below.refl _ _).drew.trans (hb4.mono (Nat.le_of_lt HBLK.out.lt)))⟩
              first | exact absurd d6 (by decide) | (rw [HFF.out]; rfl)
end Go.Proofs.Ytdjkkpefljapcaa
