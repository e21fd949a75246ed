/- Two arrays of bytes held against each other. -/
import Derived.Test.YtdjkkpefljapcaaWide
import Derived.Laws.StructEq
namespace Go.Proofs.Ytdjkkpefljapcaa
open Go.RowKit

section
variable {P : Program}
theorem run_part_byte (w : World) (e : TypeId) (k : IntKind) (he : P.underlying e = some (.int k)) (bs : List Int) (i : Nat) (hi : i < bs.length) : (part e (bArr bs) i).run P w = .ok (.int .u8 (bs.getD i 0)) w := by
  have hagg : (isAgg e).run P w = .ok false w := by
    unfold isAgg
    rw [Sem.run_bind, run_underlying he w]
    rfl
  have hc : (bArr bs)[i]? = some (.int .u8 (bs.getD i 0)) := by simp [bArr, List.getD, List.getElem?_eq_getElem hi]
  simp [part, Sem.run_bind, hagg, hc]

theorem take_same {bs cs : List Int} {i : Nat} (hb : i < bs.length) (hc : i < cs.length) (h : bs.take i = cs.take i) (h2 : bs.getD i 0 = cs.getD i 0) : bs.take (i + 1) = cs.take (i + 1) := by
  rw [List.take_succ_eq_append_getElem hb, List.take_succ_eq_append_getElem hc, h]
  simp only [List.getD, List.getElem?_eq_getElem hb, List.getElem?_eq_getElem hc, Option.getD_some] at h2
  rw [h2]

theorem run_equalIn_bytes' (w : World) (D : Nat) (t e : TypeId) (n : Nat) (ht : P.underlying t = some (.array n e)) (he : P.underlying e = some (.int .u8)) (hs : (P.info? e).map (·.size) = some 1) (h3 : ∀ a b, (Op.equalIn D e (.int .u8 a) (.int .u8 b)).run P w = .ok (a == b) w) (bs cs : List Int) (hb : bs.length = n) (hc : cs.length = n) :
    (Op.equalIn (D + 1) t (.agg (bArr bs)) (.agg (bArr cs))).run P w = .ok (decide (bs = cs)) w := by
  have hsz : (sizeOf e).run P w = .ok 1 w := by
    cases hq : P.info? e with
    | none => simp [hq] at hs
    | some i => simp [hq] at hs; simp [sizeOf, typeInfo, hq, hs]
  simp only [Op.equalIn, Sem.run_bind, run_underlying ht, Result.andThen_ok, hsz, Std.Legacy.Range.forIn_eq_forIn_range', Std.Legacy.Range.size, Nat.sub_zero, Nat.add_one_sub_one, Nat.div_one]
  have key : ∀ k i, i + k = n → bs.take i = cs.take i → ((forIn (List.range' i k 1) ((none, ()) : Option Bool × Unit) fun (i : Nat) (_ : Option Bool × Unit) => do
      let x ← part e (bArr bs) (i * 1)
      let y ← part e (bArr cs) (i * 1)
      let z ← Op.equalIn D e x y
      if (!z) = true then pure (ForInStep.done ((some false, ()) : Option Bool × Unit)) else pure (ForInStep.yield (none, ()))) : Sem _).run P w = .ok (if bs = cs then (none, ()) else (some false, ())) w := by
    intro k
    induction k with
    | zero =>
      intro i hi hp
      rw [List.take_of_length_le (by omega), List.take_of_length_le (by omega)] at hp
      simp [hp]
    | succ k ih =>
      intro i hi hp
      have h1 := run_part_byte (P := P) w e .u8 he bs i (by omega)
      have h2 := run_part_byte (P := P) w e .u8 he cs i (by omega)
      have h3 := h3 (bs.getD i 0) (cs.getD i 0)
      simp only [List.range'_succ, List.forIn_cons, Sem.run_bind, Nat.mul_one, h1, h2, h3, Result.andThen_ok]
      by_cases hq : bs.getD i 0 = cs.getD i 0
      · have hq' : (bs.getD i 0 == cs.getD i 0) = true := by simpa using hq
        simp only [hq', Bool.not_true, Bool.false_eq_true, if_false, Sem.run_pure, Result.andThen_ok]
        have := ih (i + 1) (by omega) (take_same (by omega) (by omega) hp hq)
        simpa only [Nat.mul_one, Sem.run_bind] using this
      · have hq' : (bs.getD i 0 == cs.getD i 0) = false := by simpa using hq
        have hne : bs ≠ cs := fun h => hq (by rw [h])
        simp only [hq', Bool.not_false, if_true, Sem.run_pure, Result.andThen_ok, if_neg hne]
  have := key n 0 (by omega) rfl
  simp only [Nat.mul_one] at this ⊢
  rw [this]
  by_cases h : bs = cs <;> simp [h]

theorem run_equalIn_bytes (w : World) (d : Nat) (t e : TypeId) (n : Nat) (ht : P.underlying t = some (.array n e)) (he : P.underlying e = some (.int .u8)) (hs : (P.info? e).map (·.size) = some 1) (bs cs : List Int) (hb : bs.length = n) (hc : cs.length = n) :
    (Op.equalIn (d + 2) t (.agg (bArr bs)) (.agg (bArr cs))).run P w = .ok (decide (bs = cs)) w :=
  run_equalIn_bytes' w (d + 1) t e n ht he hs (fun a b => run_equalIn_int w d e .u8 .u8 a b he) bs cs hb hc
end
theorem guard26 : Try.prog.eqGuardType Try.prog.depth 26 = false := by kernel_rfl
theorem guard82 : Try.prog.eqGuardType Try.prog.depth 82 = false := by kernel_rfl
theorem eql26 (w : World) (bs cs : List Int) (hb : bs.length = 48) (hc : cs.length = 48) : (Op.equalIn 10000 26 (.agg (bArr bs)) (.agg (bArr cs))).run Try.prog w = .ok (decide (bs = cs)) w :=
  run_equalIn_bytes w 9998 26 5 48 Try.underlying26 Try.underlying5 (by kernel_rfl) bs cs hb hc
theorem eql82 (w : World) (bs cs : List Int) (hb : bs.length = 4) (hc : cs.length = 4) : (Op.equalIn 10000 82 (.agg (bArr bs)) (.agg (bArr cs))).run Try.prog w = .ok (decide (bs = cs)) w :=
  run_equalIn_bytes w 9998 82 5 4 Try.underlying82 Try.underlying5 (by kernel_rfl) bs cs hb hc

section
variable {ops : Array Oper} {rest : List Oper} {o : Oper} {a : Act} {w : World} {Q : Exit → Act → World → Prop}
theorem step_wanted (hg : Region.wanted o (yielded ops a.tmps) = true) (v : Value) (hrun : (execOp a.eval o).run Try.prog w = .ok (.value v) w) (h : wpList Try.prog ops Q rest (a.put o.dst v) w) : wpList Try.prog ops Q (o :: rest) a w := by
  refine wpList_step fun K hK => ?_
  rw [if_pos hg]
  unfold Oper.wp
  rw [hrun, Oper.upon_value]
  exact hK _ _ h
/-- '==' and '!=' of two arrays of 48 bytes. -/
theorem step_eql26 (bs cs : List Int) (x y : Operand) (r : TypeId) (ho : o.op = .binOp .eql 26 x y r) (hg : Region.wanted o (yielded ops a.tmps) = true) (hx : a.eval x = .agg (bArr bs)) (hy : a.eval y = .agg (bArr cs)) (hb : bs.length = 48) (hc : cs.length = 48) (z : Bool) (hz : decide (bs = cs) = z)
    (h : wpList Try.prog ops Q rest (a.put o.dst (.bool z)) w) : wpList Try.prog ops Q (o :: rest) a w := by
  subst hz
  refine step_wanted hg _ ?_ h
  unfold execOp
  simp only [ho, hx, hy, Sem.run_bind, run_eqGuard_agg w .eql 26 x y _ _ guard26, Result.andThen_ok, run_eql_struct, eql26 w bs cs hb hc, Sem.run_pure]
theorem step_neq26 (bs cs : List Int) (x y : Operand) (r : TypeId) (ho : o.op = .binOp .neq 26 x y r) (hg : Region.wanted o (yielded ops a.tmps) = true) (hx : a.eval x = .agg (bArr bs)) (hy : a.eval y = .agg (bArr cs)) (hb : bs.length = 48) (hc : cs.length = 48) (z : Bool) (hz : decide (bs = cs) = z)
    (h : wpList Try.prog ops Q rest (a.put o.dst (.bool !z)) w) : wpList Try.prog ops Q (o :: rest) a w := by
  subst hz
  refine step_wanted hg _ ?_ h
  unfold execOp
  simp only [ho, hx, hy, Sem.run_bind, run_eqGuard_agg w .neq 26 x y _ _ guard26, Result.andThen_ok, run_neq_struct, eql26 w bs cs hb hc, Sem.run_pure]
theorem step_eql82 (bs cs : List Int) (x y : Operand) (r : TypeId) (ho : o.op = .binOp .neq 82 x y r) (hg : Region.wanted o (yielded ops a.tmps) = true) (hx : a.eval x = .agg (bArr bs)) (hy : a.eval y = .agg (bArr cs)) (hb : bs.length = 4) (hc : cs.length = 4) (z : Bool) (hz : decide (bs = cs) = z)
    (h : wpList Try.prog ops Q rest (a.put o.dst (.bool !z)) w) : wpList Try.prog ops Q (o :: rest) a w := by
  subst hz
  refine step_wanted hg _ ?_ h
  unfold execOp
  simp only [ho, hx, hy, Sem.run_bind, run_eqGuard_agg w .neq 82 x y _ _ guard82, Result.andThen_ok, run_neq_struct, eql82 w bs cs hb hc, Sem.run_pure]
theorem step_buildG (ty : TypeId) (parts : Array (Nat × Operand)) (cs : Array Value) (ho : o.op = .build ty parts) (hg : Region.wanted o (yielded ops a.tmps) = true) (hb : Try.prog.built ty (parts.toList.map fun (i, x) => (i, a.eval x)) = some cs)
    (h : wpList Try.prog ops Q rest (a.put o.dst (.agg cs)) w) : wpList Try.prog ops Q (o :: rest) a w := by
  refine step_wanted hg _ ?_ h
  unfold execOp
  rw [← Array.toList_map] at hb
  simp only [ho, Sem.run_bind, run_build w ty _ cs hb, Result.andThen_ok]
  rfl
theorem step_loadG (ty : TypeId) (x : Operand) (b f : Nat) (C : Array Value) (ho : o.op = .load ty x) (hg : Region.wanted o (yielded ops a.tmps) = true) (hx : a.eval x = .pointer (some ⟨b, f, none⟩)) (hc : w.rangeAt b f C.toList) (d : TypeDesc)
    (hu : Try.prog.underlying ty = some d) (hd : d.isRow = true) (n : Nat) (hi : (Try.prog.info? ty).map (·.size) = some n) (hn : C.size = n) (h : wpList Try.prog ops Q rest (a.put o.dst (.agg C)) w) : wpList Try.prog ops Q (o :: rest) a w := by
  refine step_wanted hg _ ?_ h
  have := run_loadAt_mid (P := Try.prog) w b f ty C.toList d hc hu hd (by rw [hi, ← hn]; simp)
  unfold execOp
  simp only [ho, hx, Sem.run_bind, this, Result.andThen_ok]
  simp
end
end Go.Proofs.Ytdjkkpefljapcaa
