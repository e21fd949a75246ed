/- The contract of journal.Read where the form is right: the sum is another one; or it is read. -/
import Derived.Test.YtdjkkpefljapcaaJouReadB
namespace Go.Proofs.Ytdjkkpefljapcaa
open Go.RowKit
set_option linter.unusedVariables false
set_option linter.unusedSimpArgs false

section
variable {P : Program} {ops : Array Oper} {C : World → Prop} {Q : Act → Prop} {a : Act} {o : Oper} {rest : List Oper}
theorem quiet_value (hg : o.guard = none) (v : Value) (hrun : ∀ w, C w → (execOp a.eval o).run P w = .ok (.value v) w) (h : wpQuiet P ops C Q rest (a.put o.dst v)) : wpQuiet P ops C Q (o :: rest) a := by
  refine wpQuiet_step fun K hK => ?_
  rw [if_pos (by simp [Region.wanted, hg])]
  exact ⟨v, fun w hw => by unfold Oper.quietAt; rw [hrun w hw]; exact ⟨rfl, rfl⟩, hK _ h⟩
theorem quiet_load (ty : TypeId) (x : Operand) (b f : Nat) (D : Array Value) (ho : o.op = .load ty x) (hg : o.guard = none) (hx : a.eval x = .pointer (some ⟨b, f, none⟩)) (hc : ∀ w, C w → w.rangeAt b f D.toList) (d : TypeDesc)
    (hu : P.underlying ty = some d) (hd : d.isRow = true) (n : Nat) (hi : (P.info? ty).map (·.size) = some n) (hn : D.size = n) (h : wpQuiet P ops C Q rest (a.put o.dst (.agg D))) : wpQuiet P ops C Q (o :: rest) a := by
  refine quiet_value hg (.agg D) (fun w hw => ?_) h
  have := run_loadAt_mid (P := P) w b f ty D.toList d (hc w hw) hu hd (by rw [hi, ← hn]; simp)
  unfold execOp
  simp only [ho, hx, Sem.run_bind, this, Result.andThen_ok]
  simp
end
section
variable {ops : Array Oper} {C : World → Prop} {Q : Act → Prop} {a : Act} {o : Oper} {rest : List Oper}
theorem run_arrayAt82 (w : World) (g c : Nat) : (Instr.arrayAt 82 (.slice (some ⟨g, 0, none⟩) 4 c)).run Try.prog w = .ok (.pointer (some ⟨g, 0, none⟩)) w := by
  simp [Instr.arrayAt, Sem.run_bind, run_underlying Try.underlying82]
theorem quiet_arrayAt (x : Operand) (g c : Nat) (ho : o.op = .sliceToArrayPointer 82 x) (hg : o.guard = none) (hx : a.eval x = .slice (some ⟨g, 0, none⟩) 4 c) (h : wpQuiet Try.prog ops C Q rest (a.put o.dst (.pointer (some ⟨g, 0, none⟩)))) : wpQuiet Try.prog ops C Q (o :: rest) a := by
  refine quiet_value hg _ (fun w _ => ?_) h
  unfold execOp
  simp only [ho, hx, Sem.run_bind, run_arrayAt82, Result.andThen_ok, Sem.run_pure]
theorem quiet_neq82 (bs cs : List Int) (x y : Operand) (r : TypeId) (ho : o.op = .binOp .neq 82 x y r) (hg : o.guard = none) (hx : a.eval x = .agg (bArr bs)) (hy : a.eval y = .agg (bArr cs)) (hb : bs.length = 4) (hc : cs.length = 4) (z : Bool) (hz : decide (bs = cs) = z)
    (h : wpQuiet Try.prog ops C Q rest (a.put o.dst (.bool !z))) : wpQuiet Try.prog ops C Q (o :: rest) a := by
  subst hz
  refine quiet_value hg _ (fun w _ => ?_) h
  unfold execOp
  simp only [ho, hx, hy, Sem.run_bind, run_eqGuard_agg w .neq 82 x y _ _ guard82, Result.andThen_ok, run_neq_struct, eql82 w bs cs hb hc, Sem.run_pure]
end

set_option maxRecDepth 100000 in
set_option maxHeartbeats 4000000 in
theorem read_sum (n : Int) (x : List Int) (hx : x.length = 48) (hb : isBytes x) (w : World) (h : headOk n x) (hpad : padOk x) (hsum : ¬ sumOk n x) :
    Calls Try.prog 32 #[.int .i64 n, .agg (bArr x)] w fun e w' => e = .returned (.tuple #[.bool false, .bool false, .slice none 0 0, .int .i64 16]) ∧ Below w.heap.size w w' := by
  have hB := Blk.new w 26 (bArr x)
  have hL := (Below.refl w.heap.size w).alloc (Nat.le_refl _) (.cells (bArr x) 26)
  have hat : ∀ i, i < 48 → (w.alloc (.cells (bArr x) 26)).cell? ⟨w.heap.size, i, none⟩ = some (.int .u8 (x.getD i 0)) := fun i hi => by rw [hB.cell, bArr_get _ _ (by omega)]
  have c4 := hat 4 (by omega)
  have c5 := hat 5 (by omega)
  have c47 := hat 47 (by omega)
  obtain ⟨b40, b41⟩ := hb.getD 4
  obtain ⟨g0, g1, g2, g3, g4, g5, g6⟩ := h
  rw [g2] at c47
  obtain ⟨k, hk⟩ : ∃ k : Nat, x.getD 5 0 = k := ⟨(x.getD 5 0).toNat, by omega⟩
  rw [hk] at c5 g4 g5 g6
  have hp4' : ∀ i : Nat, 6 + k ≤ i → i < 47 → x.getD i 0 = 0 := fun i h => hpad i (by rw [hk, Int.toNat_natCast]; exact h)
  have HL := Lib.hid hL
  have HAT := Lib.hid hat
  have HP4 := Lib.hid hp4'
  have HB0 := Lib.hid hB
  have HBY := Lib.hid hb
  have HSUM := Lib.hid hsum
  clear hat hB hL hb hp4' hpad g2 hk hsum
  generalize x.getD 4 0 = f at *
  have HX := Lib.hid hx
  clear hx
  have d1 : decide (n < 0) = false := decide_eq_false (by omega)
  have d2 : decide (20000 < n) = false := decide_eq_false (by omega)
  have d3 : decide (3 < f) = false := decide_eq_false (by omega)
  have d4 : decide ((k : Int) < 1) = false := decide_eq_false (by omega)
  have d5 : decide (41 < (k : Int)) = false := decide_eq_false (by omega)
  have d6 : ((k : Int) < 41 ∧ decide (f < 2) = false ∧ decide ((k : Int) < 41) = true) ∨ (k = 41 ∧ decide ((k : Int) < 41) = false) := by
    by_cases hk : (k : Int) < 41
    · exact .inl ⟨hk, decide_eq_false (by omega), decide_eq_true hk⟩
    · exact .inr ⟨by omega, decide_eq_false hk⟩
  have D6 := Lib.hid d6
  clear d6
  go_enter Try.func32, Try.ntmps32
  go_wp2_with fail
  refine wp_scope_two' (fun a' wr => Below w.heap.size w wr ∧ ∃ (u0 u1 u2 u3 u4 u5 u6 u7 u8 u9 u11 u12 u13 u14 u15 u16 u17 u18 u19 u20 u21 u22 u23 u24 u25 u26 u27 u28 u29 u30 u31 u32 u33 u34 u35 u36 u37 u38 u39 u40 u41 u42 u43 u44 u45 u46 u47 u48 u49 u50 u51 u52 u53 u54 u55 u56 u57 u58 u59 u60 u61 u62 u63 u64 u65 u66 u67 u68 u69 u70 u71 u72 u73 u74 u75 : Value), a' = { tmps := #[u0, u1, u2, u3, u4, u5, u6, u7, u8, u9, .int .i64 16, u11, u12, u13, u14, u15, u16, u17, u18, u19, u20, u21, u22, u23, u24, u25, u26, u27, u28, u29, u30, u31, u32, u33, u34, u35, u36, u37, u38, u39, u40, u41, u42, u43, u44, u45, u46, u47, u48, u49, u50, u51, u52, u53, u54, u55, u56, u57, u58, u59, u60, u61, u62, u63, u64, u65, u66, u67, u68, u69, u70, u71, u72, u73, u74, u75], defers := [] })
    (fun a' wr => (∃ q, wr = (w.alloc (.cells (bArr x) 26)).drewN q) ∧ ∃ (at_ : Nat), 6 + k ≤ at_ ∧ at_ ≤ 47 ∧ ∃ (u1 u2 u4 u5 u6 u7 u10 u12 u13 u14 u15 u16 u17 u18 u19 u20 u21 u22 u23 u24 u25 u26 u27 u28 u29 u30 u31 u32 u33 u34 u35 u36 u37 u38 u39 u40 u41 u42 u43 u44 u45 u46 u47 u48 u49 u50 u51 u52 u53 u54 u55 u56 u57 u58 u59 u60 u61 u62 u63 u64 u65 u66 u67 u68 u69 u70 u71 u72 u73 u74 u75 : Value), a' = { tmps := #[.int .i64 n, u1, u2, .pointer (some ⟨w.heap.size, 0, none⟩), u4, u5, u6, u7, .int .u8 f, .int .i64 k, u10, .int .i64 at_, u12, u13, u14, u15, u16, u17, u18, u19, u20, u21, u22, u23, u24, u25, u26, u27, u28, u29, u30, u31, u32, u33, u34, u35, u36, u37, u38, u39, u40, u41, u42, u43, u44, u45, u46, u47, u48, u49, u50, u51, u52, u53, u54, u55, u56, u57, u58, u59, u60, u61, u62, u63, u64, u65, u66, u67, u68, u69, u70, u71, u72, u73, u74, u75], defers := [] }) (fun _ _ => 0) (fun a' _ => 1 + (47 - (intOf (a'.tmps.getD 11 undef)).toNat)) rfl rfl ?_ ?_ ?_
  · rintro a' wr ⟨hbel, u0, u1, u2, u3, u4, u5, u6, u7, u8, u9, u11, u12, u13, u14, u15, u16, u17, u18, u19, u20, u21, u22, u23, u24, u25, u26, u27, u28, u29, u30, u31, u32, u33, u34, u35, u36, u37, u38, u39, u40, u41, u42, u43, u44, u45, u46, u47, u48, u49, u50, u51, u52, u53, u54, u55, u56, u57, u58, u59, u60, u61, u62, u63, u64, u65, u66, u67, u68, u69, u70, u71, u72, u73, u74, u75, rfl⟩
    have HBE := Lib.hid hbel
    clear hbel c4 c5 c47 HL D6
    go_wp2_with fail
    simp only [two]
    exact bodyPost_ret (v := .tuple #[.bool false, .bool false, .slice none 0 0, .int .i64 16]) (by simp [results, Try.results32, go_sem]) rfl ⟨rfl, HBE.out⟩
  · rintro a' wr ⟨⟨q, hq⟩, at_, ha1, ha2, u1, u2, u4, u5, u6, u7, u10, u12, u13, u14, u15, u16, u17, u18, u19, u20, u21, u22, u23, u24, u25, u26, u27, u28, u29, u30, u31, u32, u33, u34, u35, u36, u37, u38, u39, u40, u41, u42, u43, u44, u45, u46, u47, u48, u49, u50, u51, u52, u53, u54, u55, u56, u57, u58, u59, u60, u61, u62, u63, u64, u65, u66, u67, u68, u69, u70, u71, u72, u73, u74, u75, rfl⟩
    have HQ := Lib.hid hq
    have heq : at_ < 47 → wr.cell? ⟨w.heap.size, at_, none⟩ = some (.int .u8 0) := fun h => by
      rw [hq]
      have := HAT.out at_ (by omega)
      rw [HP4.out at_ ha1 h] at this
      exact this
    have HEQ := Lib.hid heq
    have hbl : Blk wr w.heap.size 26 (bArr x) := by rw [hq]; exact HB0.out.drewN q
    have hbe : Below w.heap.size w wr := by rw [hq]; exact HL.out.trans ((Quiet.drewN _ _).below _)
    have HBL := Lib.hid hbl
    have HBE := Lib.hid hbe
    clear hq c4 c5 c47 HL D6 heq hbl hbe d1 d2 d3 d4 d5
    by_cases hlt : at_ < 47
    · have cc := HEQ.out hlt
      go_wp2_with fail
      go_step3
      refine ⟨⟨⟨q, HQ.out⟩, at_ + 1, by omega, by omega, ?_⟩, ?_⟩
      · (repeat apply Exists.intro)
        rfl
      · simp [intOf]
        omega
    · have hpe : at_ = 47 := by omega
      subst hpe
      clear hlt ha1 ha2
      have hws : w.heap.size < wr.heap.size := HBL.out.lt
      have hld : ∀ w', (∃ y : Later wr.heap.size wr, w' = y.w) → w'.rangeAt w.heap.size 0 (bArr x).toList := by
        rintro w' ⟨y, rfl⟩
        exact (HBL.out.below y.below HBL.out.lt).all
      have hld4 : ∀ w', (∃ y : Later wr.heap.size wr, w' = y.w) → w'.rangeAt w.heap.size 0 (bArr (x.take 4)).toList := by
        rintro w' ⟨y, rfl⟩
        refine (HBL.out.below y.below HBL.out.lt).range 0 _ (fun j v hj => ?_)
        unfold bArr at hj ⊢
        rw [Nat.zero_add, List.getElem?_toArray]
        have hj4 : j < 4 := by have := (List.getElem?_eq_some_iff.1 hj).1; simp at this; omega
        simpa [List.getElem?_take_of_lt hj4] using hj
      have HLD := Lib.hid hld
      have HLD4 := Lib.hid hld4
      have hne : decide (hi4 (sumV n (midOf x)) = x.take 4) = false := decide_eq_false (fun h => HSUM.out h.symm)
      have HNE := Lib.hid hne
      clear hld hld4 hne
      go_wp2_with fail
      refine wp_region_later wr.heap.size (by kernel_rfl) (by kernel_rfl) ?_
      repeat (first
        | (refine quiet_load 26 _ w.heap.size 0 (bArr x) rfl rfl rfl HLD.out _ Try.underlying26 rfl 48 Try.size26 (bArr_size HX.out) ?_; simp only [Act.put, List.setIfInBounds_toArray, List.set_cons_succ, List.set_cons_zero])
        | (refine quiet_load 82 _ w.heap.size 0 (bArr (x.take 4)) rfl rfl rfl HLD4.out _ Try.underlying82 rfl 4 Try.size82 (by simp [bArr, HX.out]) ?_; simp only [Act.put, List.setIfInBounds_toArray, List.set_cons_succ, List.set_cons_zero])
        | (refine quiet_arrayAt _ w.heap.size 48 rfl rfl rfl ?_; simp only [Act.put, List.setIfInBounds_toArray, List.set_cons_succ, List.set_cons_zero])
        | (refine quiet_neq82 (hi4 (sumV n (midOf x))) (x.take 4) _ _ _ rfl rfl rfl rfl rfl (by simp [HX.out]) false HNE.out ?_)
        | (go_big_quiet_step (first | (go_at_call 54; exact later_below (Nat.le_refl _) (jsum_any n x g0 g1 HX.out HBY.out _)))))
      refine wpQuiet_nil ?_
      intro _ hw'
      obtain ⟨X, rfl⟩ := hw'
      have hbX := HBE.out.trans (X.below.mono (by omega))
      have HBX := Lib.hid hbX
      clear hbX
      generalize X.w = wX at *
      go_wp2_with fail
      go_step3
      refine ⟨⟨HBX.out, ?_⟩, ?_⟩
      · (repeat apply Exists.intro)
        rfl
      · show 0 < _
        omega
  · intro hp
    have HP := Lib.hid hp
    clear hp
    go_wp2_with fail
    go_quiet (fail)
    rcases D6.out with ⟨k1, d6, d7⟩ | ⟨rfl, d6⟩
    · go_wp2_with fail
      go_step3
      rename_i hk
      refine hk _ _ (HP.out _ _ ⟨⟨nq, rfl⟩, 6 + k, by omega, by omega, ?_⟩)
      (repeat apply Exists.intro)
      rfl
    · go_wp2_with fail
      go_step3
      rename_i hk
      refine hk _ _ (HP.out _ _ ⟨⟨nq, rfl⟩, 6 + 41, by omega, by omega, ?_⟩)
      (repeat apply Exists.intro)
      rfl
end Go.Proofs.Ytdjkkpefljapcaa
