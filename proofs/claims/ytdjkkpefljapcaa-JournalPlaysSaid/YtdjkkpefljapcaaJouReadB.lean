/- The contract of journal.Read where a byte behind the bytes is not 0. -/
import Derived.Test.YtdjkkpefljapcaaJouRead
namespace Go.Proofs.Ytdjkkpefljapcaa
open Go.RowKit
set_option linter.unusedVariables false
set_option linter.unusedSimpArgs false

set_option maxRecDepth 100000 in
set_option maxHeartbeats 4000000 in
theorem read_pad (n : Int) (x : List Int) (p : Nat) (hx : x.length = 48) (hb : isBytes x) (w : World) (h : headOk n x) (hp1 : 6 + (x.getD 5 0).toNat ≤ p) (hp2 : p < 47) (hp3 : x.getD p 0 ≠ 0) (hp4 : ∀ i : Nat, 6 + (x.getD 5 0).toNat ≤ i → i < p → x.getD i 0 = 0) :
    Calls Try.prog 32 #[.int .i64 n, .agg (bArr x)] w fun e w' => e = .returned (.tuple #[.bool false, .bool false, .slice none 0 0, .int .i64 4]) ∧ Below w.heap.size w w' := by
  have hB := Blk.new w 26 (bArr x)
  have hL := (Below.refl w.heap.size w).alloc (Nat.le_refl _) (.cells (bArr x) 26)
  have hat : ∀ i, i < 48 → (w.alloc (.cells (bArr x) 26)).cell? ⟨w.heap.size, i, none⟩ = some (.int .u8 (x.getD i 0)) := fun i hi => by rw [hB.cell, bArr_get _ _ (by omega)]
  have c4 := hat 4 (by omega)
  have c5 := hat 5 (by omega)
  have c47 := hat 47 (by omega)
  obtain ⟨b40, b41⟩ := hb.getD 4
  obtain ⟨g0, g1, g2, g3, g4, g5, g6⟩ := h
  rw [g2] at c47
  obtain ⟨k, hk⟩ : ∃ k : Nat, x.getD 5 0 = k := ⟨(x.getD 5 0).toNat, by omega⟩
  rw [hk] at c5 g4 g5 g6
  have hpk : 6 + k ≤ p := by rw [hk, Int.toNat_natCast] at hp1; exact hp1
  have hp4' : ∀ i : Nat, 6 + k ≤ i → i < p → x.getD i 0 = 0 := fun i h => hp4 i (by rw [hk, Int.toNat_natCast]; exact h)
  have HL := Lib.hid hL
  have HAT := Lib.hid hat
  have HP4 := Lib.hid hp4'
  have HP3 := Lib.hid hp3
  clear hat hB hL hb hp4 hp4' hp3 g2 hp1 hk
  generalize x.getD 4 0 = f at *
  have HX := Lib.hid hx
  clear hx
  have d1 : decide (n < 0) = false := decide_eq_false (by omega)
  have d2 : decide (20000 < n) = false := decide_eq_false (by omega)
  have d3 : decide (3 < f) = false := decide_eq_false (by omega)
  have d4 : decide ((k : Int) < 1) = false := decide_eq_false (by omega)
  have d5 : decide (41 < (k : Int)) = false := decide_eq_false (by omega)
  have d6 : ((k : Int) < 41 ∧ decide (f < 2) = false ∧ decide ((k : Int) < 41) = true) ∨ (k = 41 ∧ decide ((k : Int) < 41) = false) := by
    by_cases hk : (k : Int) < 41
    · exact .inl ⟨hk, decide_eq_false (by omega), decide_eq_true hk⟩
    · exact .inr ⟨by omega, decide_eq_false hk⟩
  have D6 := Lib.hid d6
  clear d6
  go_enter Try.func32, Try.ntmps32
  go_wp2_with fail
  refine wp_scope_two' (fun a' wr => Below w.heap.size w wr ∧ ∃ (u0 u1 u2 u3 u4 u5 u6 u7 u8 u9 u11 u12 u13 u14 u15 u16 u17 u18 u19 u20 u21 u22 u23 u24 u25 u26 u27 u28 u29 u30 u31 u32 u33 u34 u35 u36 u37 u38 u39 u40 u41 u42 u43 u44 u45 u46 u47 u48 u49 u50 u51 u52 u53 u54 u55 u56 u57 u58 u59 u60 u61 u62 u63 u64 u65 u66 u67 u68 u69 u70 u71 u72 u73 u74 u75 : Value), a' = { tmps := #[u0, u1, u2, u3, u4, u5, u6, u7, u8, u9, .int .i64 4, u11, u12, u13, u14, u15, u16, u17, u18, u19, u20, u21, u22, u23, u24, u25, u26, u27, u28, u29, u30, u31, u32, u33, u34, u35, u36, u37, u38, u39, u40, u41, u42, u43, u44, u45, u46, u47, u48, u49, u50, u51, u52, u53, u54, u55, u56, u57, u58, u59, u60, u61, u62, u63, u64, u65, u66, u67, u68, u69, u70, u71, u72, u73, u74, u75], defers := [] })
    (fun a' wr => Below w.heap.size w wr ∧ (∃ q, wr = (w.alloc (.cells (bArr x) 26)).drewN q) ∧ ∃ (at_ : Nat), 6 + k ≤ at_ ∧ at_ ≤ p ∧ ∃ (u0 u1 u2 u4 u5 u6 u7 u8 u9 u12 u13 u14 u15 u16 u17 u18 u19 u20 u21 u22 u23 u24 u25 u26 u27 u28 u29 u30 u31 u32 u33 u34 u35 u36 u37 u38 u39 u40 u41 u42 u43 u44 u45 u46 u47 u48 u49 u50 u51 u52 u53 u54 u55 u56 u57 u58 u59 u60 u61 u62 u63 u64 u65 u66 u67 u68 u69 u70 u71 u72 u73 u74 u75 : Value), a' = { tmps := #[u0, u1, u2, .pointer (some ⟨w.heap.size, 0, none⟩), u4, u5, u6, u7, u8, u9, .int .i64 4, .int .i64 at_, u12, u13, u14, u15, u16, u17, u18, u19, u20, u21, u22, u23, u24, u25, u26, u27, u28, u29, u30, u31, u32, u33, u34, u35, u36, u37, u38, u39, u40, u41, u42, u43, u44, u45, u46, u47, u48, u49, u50, u51, u52, u53, u54, u55, u56, u57, u58, u59, u60, u61, u62, u63, u64, u65, u66, u67, u68, u69, u70, u71, u72, u73, u74, u75], defers := [] }) (fun _ _ => 0) (fun a' _ => 1 + (47 - (intOf (a'.tmps.getD 11 undef)).toNat)) rfl rfl ?_ ?_ ?_
  · rintro a' wr ⟨hbel, u0, u1, u2, u3, u4, u5, u6, u7, u8, u9, u11, u12, u13, u14, u15, u16, u17, u18, u19, u20, u21, u22, u23, u24, u25, u26, u27, u28, u29, u30, u31, u32, u33, u34, u35, u36, u37, u38, u39, u40, u41, u42, u43, u44, u45, u46, u47, u48, u49, u50, u51, u52, u53, u54, u55, u56, u57, u58, u59, u60, u61, u62, u63, u64, u65, u66, u67, u68, u69, u70, u71, u72, u73, u74, u75, rfl⟩
    have HBE := Lib.hid hbel
    clear hbel c4 c5 c47 HL D6
    go_wp2_with fail
    simp only [two]
    exact bodyPost_ret (v := .tuple #[.bool false, .bool false, .slice none 0 0, .int .i64 4]) (by simp [results, Try.results32, go_sem]) rfl ⟨rfl, HBE.out⟩
  · rintro a' wr ⟨hbel, ⟨q, hq⟩, at_, ha1, ha2, u0, u1, u2, u4, u5, u6, u7, u8, u9, u12, u13, u14, u15, u16, u17, u18, u19, u20, u21, u22, u23, u24, u25, u26, u27, u28, u29, u30, u31, u32, u33, u34, u35, u36, u37, u38, u39, u40, u41, u42, u43, u44, u45, u46, u47, u48, u49, u50, u51, u52, u53, u54, u55, u56, u57, u58, u59, u60, u61, u62, u63, u64, u65, u66, u67, u68, u69, u70, u71, u72, u73, u74, u75, rfl⟩
    have cc : wr.cell? ⟨w.heap.size, at_, none⟩ = some (.int .u8 (x.getD at_ 0)) := by rw [hq]; exact HAT.out at_ (by omega)
    have HBE := Lib.hid hbel
    have HQ := Lib.hid hq
    have hne : at_ = p → x.getD at_ 0 ≠ 0 := fun h => by rw [h]; exact HP3.out
    have heq : at_ < p → x.getD at_ 0 = 0 := fun h => HP4.out at_ ha1 h
    have HNE := Lib.hid hne
    have HEQ := Lib.hid heq
    clear hbel hq c4 c5 c47 HL D6 hne heq
    by_cases hlt : at_ < p
    · have e := HEQ.out hlt
      rw [e] at cc
      clear e
      go_wp2_with fail
      go_step3
      refine ⟨⟨HBE.out, ⟨q, HQ.out⟩, at_ + 1, by omega, by omega, ?_⟩, ?_⟩
      · (repeat apply Exists.intro)
        rfl
      · simp [intOf]
        omega
    · have hpe : at_ = p := by omega
      have e := HNE.out hpe
      have e1 : (x.getD at_ 0 != 0) = true := by simpa using e
      have ha47 : at_ < 47 := by omega
      clear e hpe hlt
      generalize x.getD at_ 0 = xa at *
      go_wp2_with fail
      go_step3
      refine ⟨⟨HBE.out, ?_⟩, ?_⟩
      · (repeat apply Exists.intro)
        rfl
      · show 0 < _
        omega
  · intro hp
    have HP := Lib.hid hp
    clear hp
    go_wp2_with fail
    go_quiet (fail)
    rcases D6.out with ⟨k1, d6, d7⟩ | ⟨rfl, d6⟩
    · go_wp2_with fail
      go_step3
      rename_i hk
      refine hk _ _ (HP.out _ _ ⟨HL.out.trans ((Quiet.drewN _ _).below _), ⟨nq, rfl⟩, 6 + k, by omega, by omega, ?_⟩)
      (repeat apply Exists.intro)
      rfl
    · go_wp2_with fail
      go_step3
      rename_i hk
      refine hk _ _ (HP.out _ _ ⟨HL.out.trans ((Quiet.drewN _ _).below _), ⟨nq, rfl⟩, 6 + 41, by omega, by omega, ?_⟩)
      (repeat apply Exists.intro)
      rfl
end Go.Proofs.Ytdjkkpefljapcaa
