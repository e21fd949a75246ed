/- The contract of journal.Read. -/
import Derived.Test.YtdjkkpefljapcaaJouRefPage
import Derived.Test.YtdjkkpefljapcaaLater
import Derived.Deep.QuietTactic
import Derived.BigQuiet
namespace Go.Proofs.Ytdjkkpefljapcaa
open Go.RowKit
set_option linter.unusedVariables false
set_option linter.unusedSimpArgs false

section
variable {P : Program} {a : Act} {w : World} {Q : Exit → Act → World → Prop}
/-- Two labels; the way from above comes to label 1, and label 0 stands behind it. -/
theorem wp_scope_two' {c r0 r1 : Code} (J0 J1 : Act → World → Prop) (m0 m1 : Act → World → Nat) (h0 : findLabel c 0 = some (Code.skip.seq r0)) (h1 : findLabel c 1 = some (Code.skip.seq r1))
    (pass0 : ∀ a w, J0 a w → r0.wp P (two (fun a' w' => J0 a' w' ∧ m0 a' w' < m0 a w) (fun a' w' => J1 a' w' ∧ m1 a' w' < m0 a w) Q) a w)
    (pass1 : ∀ a w, J1 a w → r1.wp P (two (fun a' w' => J0 a' w' ∧ m0 a' w' < m1 a w) (fun a' w' => J1 a' w' ∧ m1 a' w' < m1 a w) Q) a w)
    (first : (∀ a w, J1 a w → r1.wp P (two J0 J1 Q) a w) → c.wp P (two J0 J1 Q) a w) : (Code.scope c).wp P Q a w := by
  let J : Nat → Act → World → Prop := fun l a w => (l = 0 ∧ J0 a w) ∨ (l = 1 ∧ J1 a w)
  let m : Nat → Act → World → Nat := fun l a w => if l = 0 then m0 a w else m1 a w
  let rest : Nat → Code := fun l => if l = 0 then r0 else r1
  have of_two : ∀ n e a w, two (fun a' w' => J0 a' w' ∧ m0 a' w' < n) (fun a' w' => J1 a' w' ∧ m1 a' w' < n) Q e a w → jumps (jlt J m n) Q e a w := by
    intro n e a w h
    cases e with
    | goto l =>
      match l, h with
      | 0, h => exact ⟨.inl ⟨rfl, h.1⟩, h.2⟩
      | 1, h => exact ⟨.inr ⟨rfl, h.1⟩, h.2⟩
    | _ => exact h
  refine wp_scope_labels J m rest ?_ ?_ ?_
  · intro l a w h
    rcases h with ⟨rfl, _⟩ | ⟨rfl, _⟩
    · exact h0
    · exact h1
  · intro l a w h hlow
    rcases h with ⟨rfl, h⟩ | ⟨rfl, h⟩
    · exact Code.wp_mono (of_two _) (pass0 a w h)
    · exact Code.wp_mono (of_two _) (pass1 a w h)
  · intro hall
    have up : ∀ e a w, two J0 J1 Q e a w → jumps J Q e a w := by
      intro e a w h
      cases e with
      | goto l =>
        match l, h with
        | 0, h => exact .inl ⟨rfl, h⟩
        | 1, h => exact .inr ⟨rfl, h⟩
      | _ => exact h
    have down : ∀ e a w, jumps J Q e a w → two J0 J1 Q e a w := by
      intro e a w h
      cases e with
      | goto l =>
        rcases h with ⟨rfl, h⟩ | ⟨rfl, h⟩
        · exact h
        · exact h
      | _ => exact h
    exact Code.wp_mono up (first fun a w h => Code.wp_mono down (hall 1 a w (.inr ⟨rfl, h⟩)))
end

/-! ### what a leaf says, in plain Lean -/
/-- Its head is as it has to be. -/
def headOk (n : Int) (x : List Int) : Prop := 0 ≤ n ∧ n ≤ 20000 ∧ x.getD 47 0 = 90 ∧ x.getD 4 0 ≤ 3 ∧ 1 ≤ x.getD 5 0 ∧ x.getD 5 0 ≤ 41 ∧ (x.getD 5 0 = 41 ∨ 2 ≤ x.getD 4 0)
/-- No byte but 0 behind the bytes. -/
def padOk (x : List Int) : Prop := ∀ i : Nat, 6 + (x.getD 5 0).toNat ≤ i → i < 47 → x.getD i 0 = 0
def sumOk (n : Int) (x : List Int) : Prop := x.take 4 = hi4 (sumV n (midOf x))
instance (n : Int) (x : List Int) : Decidable (headOk n x) := by unfold headOk; exact inferInstance
instance (n : Int) (x : List Int) : Decidable (sumOk n x) := by unfold sumOk; exact inferInstance
def partOf (x : List Int) : List Int := (x.drop 6).take (x.getD 5 0).toNat
/-- Why a leaf is refused: 0: it is not. -/
noncomputable def readE (n : Int) (x : List Int) : Int := by
  classical
  exact if headOk n x ∧ padOk x then (if sumOk n x then 0 else 16) else 4

theorem Try.results32s : Try.f32.results = #[.tmp 4, .tmp 5, .tmp 6, .tmp 7] := by kernel_rfl

set_option maxRecDepth 100000 in
set_option maxHeartbeats 4000000 in
theorem read_head (n : Int) (x : List Int) (hx : x.length = 48) (hb : isBytes x) (w : World) (hn0 : -9223372036854775808 ≤ n) (hn1 : n ≤ 9223372036854775807) (h : ¬ headOk n x) :
    Calls Try.prog 32 #[.int .i64 n, .agg (bArr x)] w fun e w' => e = .returned (.tuple #[.bool false, .bool false, .slice none 0 0, .int .i64 4]) ∧ Below w.heap.size w w' := by
  have hB := Blk.new w 26 (bArr x)
  have hL := (Below.refl w.heap.size w).alloc (Nat.le_refl _) (.cells (bArr x) 26)
  have hat : ∀ i, i < 48 → (w.alloc (.cells (bArr x) 26)).cell? ⟨w.heap.size, i, none⟩ = some (.int .u8 (x.getD i 0)) := fun i hi => by rw [hB.cell, bArr_get _ _ (by omega)]
  have c4 := hat 4 (by omega)
  have c5 := hat 5 (by omega)
  have c47 := hat 47 (by omega)
  obtain ⟨b40, b41⟩ := hb.getD 4
  obtain ⟨b50, b51⟩ := hb.getD 5
  have HL := Lib.hid hL
  have hcase : n < 0 ∨ (0 ≤ n ∧ 20000 < n) ∨ (0 ≤ n ∧ n ≤ 20000 ∧ x.getD 47 0 ≠ 90) ∨ (0 ≤ n ∧ n ≤ 20000 ∧ x.getD 47 0 = 90 ∧ 3 < x.getD 4 0) ∨ (0 ≤ n ∧ n ≤ 20000 ∧ x.getD 47 0 = 90 ∧ x.getD 4 0 ≤ 3 ∧ x.getD 5 0 < 1) ∨ (0 ≤ n ∧ n ≤ 20000 ∧ x.getD 47 0 = 90 ∧ x.getD 4 0 ≤ 3 ∧ 1 ≤ x.getD 5 0 ∧ 41 < x.getD 5 0) ∨ (0 ≤ n ∧ n ≤ 20000 ∧ x.getD 47 0 = 90 ∧ x.getD 4 0 ≤ 3 ∧ 1 ≤ x.getD 5 0 ∧ x.getD 5 0 < 41 ∧ x.getD 4 0 < 2) := by
    unfold headOk at h
    omega
  clear hat hB hL h hx hb
  generalize x.getD 4 0 = f at *
  generalize x.getD 5 0 = k at *
  generalize x.getD 47 0 = e at *
  go_enter Try.func32, Try.ntmps32
  go_wp2_with fail
  refine wp_scope_two' (fun a' wr => Below w.heap.size w wr ∧ ∃ (u0 u1 u2 u3 u4 u5 u6 u7 u8 u9 u11 u12 u13 u14 u15 u16 u17 u18 u19 u20 u21 u22 u23 u24 u25 u26 u27 u28 u29 u30 u31 u32 u33 u34 u35 u36 u37 u38 u39 u40 u41 u42 u43 u44 u45 u46 u47 u48 u49 u50 u51 u52 u53 u54 u55 u56 u57 u58 u59 u60 u61 u62 u63 u64 u65 u66 u67 u68 u69 u70 u71 u72 u73 u74 u75 : Value), a' = { tmps := #[u0, u1, u2, u3, u4, u5, u6, u7, u8, u9, .int .i64 4, u11, u12, u13, u14, u15, u16, u17, u18, u19, u20, u21, u22, u23, u24, u25, u26, u27, u28, u29, u30, u31, u32, u33, u34, u35, u36, u37, u38, u39, u40, u41, u42, u43, u44, u45, u46, u47, u48, u49, u50, u51, u52, u53, u54, u55, u56, u57, u58, u59, u60, u61, u62, u63, u64, u65, u66, u67, u68, u69, u70, u71, u72, u73, u74, u75], defers := [] }) (fun _ _ => False) (fun _ _ => 0) (fun _ _ => 1) rfl rfl ?_ ?_ ?_
  · rintro a' wr ⟨hbel, u0, u1, u2, u3, u4, u5, u6, u7, u8, u9, u11, u12, u13, u14, u15, u16, u17, u18, u19, u20, u21, u22, u23, u24, u25, u26, u27, u28, u29, u30, u31, u32, u33, u34, u35, u36, u37, u38, u39, u40, u41, u42, u43, u44, u45, u46, u47, u48, u49, u50, u51, u52, u53, u54, u55, u56, u57, u58, u59, u60, u61, u62, u63, u64, u65, u66, u67, u68, u69, u70, u71, u72, u73, u74, u75, rfl⟩
    have HBE := Lib.hid hbel
    clear hbel c4 c5 c47 HL hcase
    go_wp2_with fail
    simp only [two]
    exact bodyPost_ret (v := .tuple #[.bool false, .bool false, .slice none 0 0, .int .i64 4]) (by simp [results, Try.results32, go_sem]) rfl ⟨rfl, HBE.out⟩
  · rintro a' wr h
    exact h.elim
  · intro hp
    clear hp
    go_wp2_with fail
    go_quiet (fail)
    rcases hcase with g0 | ⟨g0, g1⟩ | ⟨g0, g1, g2⟩ | ⟨g0, g1, g2, g3⟩ | ⟨g0, g1, g2, g3, g4⟩ | ⟨g0, g1, g2, g3, g4, g5⟩ | ⟨g0, g1, g2, g3, g4, g5, g6⟩
    · have d0 : decide (n < 0) = true := decide_eq_true (by omega)
      go_wp2_with fail
      go_step3
      refine ⟨HL.out.trans ((Quiet.drewN _ _).below _), ?_⟩
      (repeat apply Exists.intro)
      rfl
    · have d0 : decide (n < 0) = false := decide_eq_false (by omega)
      have d1 : decide (20000 < n) = true := decide_eq_true (by omega)
      go_wp2_with fail
      go_step3
      refine ⟨HL.out.trans ((Quiet.drewN _ _).below _), ?_⟩
      (repeat apply Exists.intro)
      rfl
    · have d0 : decide (n < 0) = false := decide_eq_false (by omega)
      have d1 : decide (20000 < n) = false := decide_eq_false (by omega)
      have e47 : (e != 90) = true := by simpa using g2
      go_wp2_with fail
      go_step3
      refine ⟨HL.out.trans ((Quiet.drewN _ _).below _), ?_⟩
      (repeat apply Exists.intro)
      rfl
    · have d0 : decide (n < 0) = false := decide_eq_false (by omega)
      have d1 : decide (20000 < n) = false := decide_eq_false (by omega)
      have e47 : (e != 90) = false := by simpa using g2
      have d3 : decide (3 < f) = true := decide_eq_true (by omega)
      go_wp2_with fail
      go_step3
      refine ⟨HL.out.trans ((Quiet.drewN _ _).below _), ?_⟩
      (repeat apply Exists.intro)
      rfl
    · have d0 : decide (n < 0) = false := decide_eq_false (by omega)
      have d1 : decide (20000 < n) = false := decide_eq_false (by omega)
      have e47 : (e != 90) = false := by simpa using g2
      have d3 : decide (3 < f) = false := decide_eq_false (by omega)
      have d4 : decide (k < 1) = true := decide_eq_true (by omega)
      go_wp2_with fail
      go_step3
      refine ⟨HL.out.trans ((Quiet.drewN _ _).below _), ?_⟩
      (repeat apply Exists.intro)
      rfl
    · have d0 : decide (n < 0) = false := decide_eq_false (by omega)
      have d1 : decide (20000 < n) = false := decide_eq_false (by omega)
      have e47 : (e != 90) = false := by simpa using g2
      have d3 : decide (3 < f) = false := decide_eq_false (by omega)
      have d4 : decide (k < 1) = false := decide_eq_false (by omega)
      have d5 : decide (41 < k) = true := decide_eq_true (by omega)
      go_wp2_with fail
      go_step3
      refine ⟨HL.out.trans ((Quiet.drewN _ _).below _), ?_⟩
      (repeat apply Exists.intro)
      rfl
    · have d0 : decide (n < 0) = false := decide_eq_false (by omega)
      have d1 : decide (20000 < n) = false := decide_eq_false (by omega)
      have e47 : (e != 90) = false := by simpa using g2
      have d3 : decide (3 < f) = false := decide_eq_false (by omega)
      have d4 : decide (k < 1) = false := decide_eq_false (by omega)
      have d5 : decide (41 < k) = false := decide_eq_false (by omega)
      have d6 : decide (k < 41) = true := decide_eq_true (by omega)
      have d7 : decide (f < 2) = true := decide_eq_true (by omega)
      go_wp2_with fail
      go_step3
      refine ⟨HL.out.trans ((Quiet.drewN _ _).below _), ?_⟩
      (repeat apply Exists.intro)
      rfl
end Go.Proofs.Ytdjkkpefljapcaa
