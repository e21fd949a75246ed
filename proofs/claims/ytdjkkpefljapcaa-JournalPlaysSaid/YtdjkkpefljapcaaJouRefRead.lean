/- The contract of lombardref24.Read where the head is not as it has to be. -/
import Derived.Test.YtdjkkpefljapcaaJouReadD
namespace Go.Proofs.Ytdjkkpefljapcaa
open Go.RowKit
set_option linter.unusedVariables false
set_option linter.unusedSimpArgs false

theorem Try.results33s : Try.f33.results = #[.tmp 4, .tmp 5, .tmp 6, .tmp 7] := by kernel_rfl

set_option maxRecDepth 100000 in
set_option maxHeartbeats 4000000 in
theorem refRead_head (n : Int) (x : List Int) (hx : x.length = 48) (hb : isBytes x) (w : World) (hn0 : -9223372036854775808 ≤ n) (hn1 : n ≤ 9223372036854775807) (h : ¬ headOk n x) :
    Calls Try.prog 33 #[.int .i64 n, .agg (bArr x)] w fun e w' => e = .returned (.tuple #[.bool false, .bool false, .slice none 0 0, .int .i64 4]) ∧ Below w.heap.size w w' := by
  have hB := Blk.new w 26 (bArr x)
  have hL := (Below.refl w.heap.size w).alloc (Nat.le_refl _) (.cells (bArr x) 26)
  have hat : ∀ i, i < 48 → (w.alloc (.cells (bArr x) 26)).cell? ⟨w.heap.size, i, none⟩ = some (.int .u8 (x.getD i 0)) := fun i hi => by rw [hB.cell, bArr_get _ _ (by omega)]
  have c4 := hat 4 (by omega)
  have c5 := hat 5 (by omega)
  have c47 := hat 47 (by omega)
  obtain ⟨b40, b41⟩ := hb.getD 4
  obtain ⟨b50, b51⟩ := hb.getD 5
  have HL := Lib.hid hL
  have hcase : n < 0 ∨ (0 ≤ n ∧ 20000 < n) ∨ (0 ≤ n ∧ n ≤ 20000 ∧ x.getD 47 0 ≠ 90) ∨ (0 ≤ n ∧ n ≤ 20000 ∧ x.getD 47 0 = 90 ∧ 3 < x.getD 4 0) ∨ (0 ≤ n ∧ n ≤ 20000 ∧ x.getD 47 0 = 90 ∧ x.getD 4 0 ≤ 3 ∧ x.getD 5 0 < 1) ∨ (0 ≤ n ∧ n ≤ 20000 ∧ x.getD 47 0 = 90 ∧ x.getD 4 0 ≤ 3 ∧ 1 ≤ x.getD 5 0 ∧ 41 < x.getD 5 0) ∨ (0 ≤ n ∧ n ≤ 20000 ∧ x.getD 47 0 = 90 ∧ x.getD 4 0 ≤ 3 ∧ 1 ≤ x.getD 5 0 ∧ x.getD 5 0 < 41 ∧ x.getD 4 0 < 2) := by
    unfold headOk at h
    omega
  clear hat hB hL h hx hb
  generalize x.getD 4 0 = f at *
  generalize x.getD 5 0 = k at *
  generalize x.getD 47 0 = e at *
  rcases hcase with g0 | ⟨g0, g1⟩ | ⟨g0, g1, g2⟩ | ⟨g0, g1, g2, g3⟩ | ⟨g0, g1, g2, g3, g4⟩ | ⟨g0, g1, g2, g3, g4, g5⟩ | ⟨g0, g1, g2, g3, g4, g5, g6⟩
  · have d0 : decide (0 ≤ n) = false := decide_eq_false (by omega)
    go_enter Try.func33, Try.ntmps33
    go_wp2_with fail
    go_loop [10, 11] (fun o i => o = .bool false) (fun _ _ => 0)
    case atStart => rfl
    case round =>
      obtain rfl := hrel
      go_wp2_with fail
      exact bodyPost_ret (v := .tuple #[.bool false, .bool false, .slice none 0 0, .int .i64 4]) (by simp [results, Try.results33s, go_sem]) rfl ⟨rfl, HL.out⟩
  · have d0 : decide (0 ≤ n) = true := decide_eq_true (by omega)
    have d1 : decide (n ≤ 20000) = false := decide_eq_false (by omega)
    go_enter Try.func33, Try.ntmps33
    go_wp2_with fail
    go_loop [10, 11] (fun o i => o = .bool false) (fun _ _ => 0)
    case atStart => rfl
    case round =>
      obtain rfl := hrel
      go_wp2_with fail
      exact bodyPost_ret (v := .tuple #[.bool false, .bool false, .slice none 0 0, .int .i64 4]) (by simp [results, Try.results33s, go_sem]) rfl ⟨rfl, HL.out⟩
  · have d0 : decide (0 ≤ n) = true := decide_eq_true (by omega)
    have d1 : decide (n ≤ 20000) = true := decide_eq_true (by omega)
    have e47 : (e == 90) = false := by simpa using g2
    go_enter Try.func33, Try.ntmps33
    go_wp2_with fail
    go_loop [10, 11] (fun o i => o = .bool false) (fun _ _ => 0)
    case atStart => rfl
    case round =>
      obtain rfl := hrel
      go_wp2_with fail
      exact bodyPost_ret (v := .tuple #[.bool false, .bool false, .slice none 0 0, .int .i64 4]) (by simp [results, Try.results33s, go_sem]) rfl ⟨rfl, HL.out⟩
  · have d0 : decide (0 ≤ n) = true := decide_eq_true (by omega)
    have d1 : decide (n ≤ 20000) = true := decide_eq_true (by omega)
    have e47 : (e == 90) = true := by simpa using g2
    have d3 : decide (f ≤ 3) = false := decide_eq_false (by omega)
    go_enter Try.func33, Try.ntmps33
    go_wp2_with fail
    go_loop [10, 11] (fun o i => o = .bool false) (fun _ _ => 0)
    case atStart => rfl
    case round =>
      obtain rfl := hrel
      go_wp2_with fail
      exact bodyPost_ret (v := .tuple #[.bool false, .bool false, .slice none 0 0, .int .i64 4]) (by simp [results, Try.results33s, go_sem]) rfl ⟨rfl, HL.out⟩
  · have d0 : decide (0 ≤ n) = true := decide_eq_true (by omega)
    have d1 : decide (n ≤ 20000) = true := decide_eq_true (by omega)
    have e47 : (e == 90) = true := by simpa using g2
    have d3 : decide (f ≤ 3) = true := decide_eq_true (by omega)
    have d4 : decide (1 ≤ k) = false := decide_eq_false (by omega)
    go_enter Try.func33, Try.ntmps33
    go_wp2_with fail
    go_loop [10, 11] (fun o i => o = .bool false) (fun _ _ => 0)
    case atStart => rfl
    case round =>
      obtain rfl := hrel
      go_wp2_with fail
      exact bodyPost_ret (v := .tuple #[.bool false, .bool false, .slice none 0 0, .int .i64 4]) (by simp [results, Try.results33s, go_sem]) rfl ⟨rfl, HL.out⟩
  · have d0 : decide (0 ≤ n) = true := decide_eq_true (by omega)
    have d1 : decide (n ≤ 20000) = true := decide_eq_true (by omega)
    have e47 : (e == 90) = true := by simpa using g2
    have d3 : decide (f ≤ 3) = true := decide_eq_true (by omega)
    have d4 : decide (1 ≤ k) = true := decide_eq_true (by omega)
    have d5 : decide (k ≤ 41) = false := decide_eq_false (by omega)
    go_enter Try.func33, Try.ntmps33
    go_wp2_with fail
    go_loop [10, 11] (fun o i => o = .bool false) (fun _ _ => 0)
    case atStart => rfl
    case round =>
      obtain rfl := hrel
      go_wp2_with fail
      exact bodyPost_ret (v := .tuple #[.bool false, .bool false, .slice none 0 0, .int .i64 4]) (by simp [results, Try.results33s, go_sem]) rfl ⟨rfl, HL.out⟩
  · have d0 : decide (0 ≤ n) = true := decide_eq_true (by omega)
    have d1 : decide (n ≤ 20000) = true := decide_eq_true (by omega)
    have e47 : (e == 90) = true := by simpa using g2
    have d3 : decide (f ≤ 3) = true := decide_eq_true (by omega)
    have d4 : decide (1 ≤ k) = true := decide_eq_true (by omega)
    have d5 : decide (k ≤ 41) = true := decide_eq_true (by omega)
    have d6 : decide (2 ≤ f) = false := decide_eq_false (by omega)
    have e41 : (k == 41) = false := by simp; omega
    go_enter Try.func33, Try.ntmps33
    go_wp2_with fail
    go_loop [10, 11] (fun o i => o = .bool false) (fun _ _ => 0)
    case atStart => rfl
    case round =>
      obtain rfl := hrel
      go_wp2_with fail
      exact bodyPost_ret (v := .tuple #[.bool false, .bool false, .slice none 0 0, .int .i64 4]) (by simp [results, Try.results33s, go_sem]) rfl ⟨rfl, HL.out⟩

def bOf : Value → Nat | .bool true => 1 | _ => 0
set_option maxRecDepth 100000 in
set_option maxHeartbeats 4000000 in
theorem refRead_pad (n : Int) (x : List Int) (p : Nat) (hx : x.length = 48) (hb : isBytes x) (w : World) (h : headOk n x) (hp1 : 6 + (x.getD 5 0).toNat ≤ p) (hp2 : p < 47) (hp3 : x.getD p 0 ≠ 0) (hp4 : ∀ i : Nat, 6 + (x.getD 5 0).toNat ≤ i → i < p → x.getD i 0 = 0) :
    Calls Try.prog 33 #[.int .i64 n, .agg (bArr x)] w fun e w' => e = .returned (.tuple #[.bool false, .bool false, .slice none 0 0, .int .i64 4]) ∧ Below w.heap.size w w' := by
  have hB := Blk.new w 26 (bArr x)
  have hL := (Below.refl w.heap.size w).alloc (Nat.le_refl _) (.cells (bArr x) 26)
  have hat : ∀ i, i < 48 → (w.alloc (.cells (bArr x) 26)).cell? ⟨w.heap.size, i, none⟩ = some (.int .u8 (x.getD i 0)) := fun i hi => by rw [hB.cell, bArr_get _ _ (by omega)]
  have c4 := hat 4 (by omega)
  have c5 := hat 5 (by omega)
  have c47 := hat 47 (by omega)
  obtain ⟨b40, b41⟩ := hb.getD 4
  obtain ⟨g0, g1, g2, g3, g4, g5, g6⟩ := h
  rw [g2] at c47
  obtain ⟨k, hk⟩ : ∃ k : Nat, x.getD 5 0 = k := ⟨(x.getD 5 0).toNat, by omega⟩
  rw [hk] at c5 g4 g5 g6
  have hpk : 6 + k ≤ p := by rw [hk, Int.toNat_natCast] at hp1; exact hp1
  have hp4' : ∀ i : Nat, 6 + k ≤ i → i < p → x.getD i 0 = 0 := fun i h => hp4 i (by rw [hk, Int.toNat_natCast]; exact h)
  have HL := Lib.hid hL
  have HAT := Lib.hid hat
  have HP4 := Lib.hid hp4'
  have HP3 := Lib.hid hp3
  clear hat hB hL hb hp4 hp4' hp3 g2 hp1 hk
  generalize x.getD 4 0 = f at *
  have HX := Lib.hid hx
  clear hx
  have d1 : decide (0 ≤ n) = true := decide_eq_true (by omega)
  have d2 : decide (n ≤ 20000) = true := decide_eq_true (by omega)
  have d3 : decide (f ≤ 3) = true := decide_eq_true (by omega)
  have d4 : decide (1 ≤ (k : Int)) = true := decide_eq_true (by omega)
  have d5 : decide ((k : Int) ≤ 41) = true := decide_eq_true (by omega)
  have d6 : (decide (2 ≤ f) = true) ∨ (k = 41 ∧ decide (2 ≤ f) = false) := by
    by_cases hf : 2 ≤ f
    · exact .inl (decide_eq_true hf)
    · exact .inr ⟨by omega, decide_eq_false hf⟩
  rcases d6 with d6 | ⟨rfl, d6⟩
  · go_enter Try.func33, Try.ntmps33
    go_wp2_with fail
    go_loop [10, 11] (fun o i => (o = .bool true ∧ ∃ j : Nat, k ≤ j ∧ 6 + j ≤ p ∧ i = .int .i64 j) ∨ (o = .bool false ∧ ∃ j : Int, i = .int .i64 j)) (fun o i => bOf o * (50 - (intOf i).toNat))
    case atStart => exact .inl ⟨rfl, k, Nat.le_refl _, hpk, rfl⟩
    case round =>
      rcases hrel with ⟨rfl, j, hj1, hj2, rfl⟩ | ⟨rfl, j, rfl⟩
      · have cc := HAT.out (6 + j) (by omega)
        by_cases hlt : 6 + j < p
        · have hz := HP4.out (6 + j) (by omega) hlt
          rw [hz] at cc
          clear hz
          go_wp2_with fail
          go_round
          case rel => exact .inl ⟨rfl, j + 1, by omega, by omega, by go_num⟩
          case measure => simp [bOf, intOf]; omega
        · have hpe : 6 + j = p := by omega
          have hz : (x.getD (6 + j) 0 == 0) = false := by rw [hpe]; simpa using HP3.out
          have hj41 : j < 41 := by omega
          clear hpe hlt
          generalize x.getD (6 + j) 0 = xp at *
          go_wp2_with fail
          go_round
          case rel => exact .inr ⟨rfl, (j : Int) + 1, rfl⟩
          case measure => simp [bOf, intOf]; omega
      · go_wp2_with fail
        exact bodyPost_ret (v := .tuple #[.bool false, .bool false, .slice none 0 0, .int .i64 4]) (by simp [results, Try.results33s, go_sem]) rfl ⟨rfl, HL.out⟩
  · omega
end Go.Proofs.Ytdjkkpefljapcaa
