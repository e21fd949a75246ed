/- Steps of a walk at operations on whole leaves and on arrays of 48 bytes: the cells are whatever. -/
import Derived.Test.YtdjkkpefljapcaaLeafA
import Derived.StillTailTactics
namespace Go.Proofs.Ytdjkkpefljapcaa
open Go.RowKit

/-- 48 bytes 0; a blank leaf: as cells. -/
def zArr : Array Value := ((List.replicate 48 (0 : Int)).map (Value.int .u8)).toArray
def zLeaf : Array Value := Lf.zero.cells.toArray
def bArr (bs : List Int) : Array Value := (bs.map (Value.int .u8)).toArray
def lArr (x : Lf) : Array Value := x.cells.toArray
theorem zLeaf_eq : zLeaf = lArr Lf.zero := rfl
theorem zArr_eq : zArr = bArr (List.replicate 48 0) := rfl
theorem bArr_size {bs : List Int} (h : bs.length = 48) : (bArr bs).size = 48 := by simp [bArr, h]
theorem lArr_size {x : Lf} (h : x.ok) : (lArr x).size = 49 := by simpa [lArr] using Lf.cells_length h
theorem Try.zero26 : (Try.prog.info? 26).map (·.zero) = some (some (.agg zArr)) := by kernel_rfl
theorem Try.zero76 : (Try.prog.info? 76).map (·.zero) = some (some (.agg zLeaf)) := by kernel_rfl
theorem Try.size26 : (Try.prog.info? 26).map (·.size) = some 48 := by kernel_rfl
theorem Try.size76 : (Try.prog.info? 76).map (·.size) = some 49 := by kernel_rfl

section
variable {P : Program} {ops : Array Oper} {rest : List Oper} {o : Oper} {a : Act} {w : World} {Q : Exit → Act → World → Prop}
theorem step_value (hg : o.guard = none) (v : Value) (w' : World) (hrun : (execOp a.eval o).run P w = .ok (.value v) w')
    (h : wpList P ops Q rest (a.put o.dst v) w') : wpList P ops Q (o :: rest) a w := by
  refine wpList_plain hg fun K hK => ?_
  unfold Oper.wp
  rw [hrun, Oper.upon_value]
  exact hK _ _ h
theorem run_alloc (w : World) (ty : TypeId) (Z : Array Value) (hz : (P.info? ty).map (·.zero) = some (some (.agg Z))) : (Instr.alloc ty true (.tuple #[])).run P w = .ok (.pointer (some ⟨w.heap.size, 0, none⟩)) (w.alloc (.cells Z ty)) := by
  cases hq : P.info? ty with
  | none => simp [hq] at hz
  | some i =>
    simp [hq] at hz
    simp [Instr.alloc, zeroValue, typeInfo, hq, hz, newVar, newRow, Value.cells]
theorem step_alloc (ty : TypeId) (Z : Array Value) (hz : (P.info? ty).map (·.zero) = some (some (.agg Z))) (hg : o.guard = none) (ho : o.op = .alloc ty)
    (h : wpList P ops Q rest (a.put o.dst (.pointer (some ⟨w.heap.size, 0, none⟩))) (w.alloc (.cells Z ty))) : wpList P ops Q (o :: rest) a w := by
  refine step_value hg _ _ ?_ h
  unfold execOp
  simp [ho, run_alloc w ty Z hz]
theorem step_build (ty : TypeId) (parts : Array (Nat × Operand)) (cs : Array Value) (hg : o.guard = none) (ho : o.op = .build ty parts) (hb : P.built ty (parts.toList.map fun (i, x) => (i, a.eval x)) = some cs)
    (h : wpList P ops Q rest (a.put o.dst (.agg cs)) w) : wpList P ops Q (o :: rest) a w := by
  refine step_value hg _ _ ?_ h
  unfold execOp
  rw [← Array.toList_map] at hb
  simp only [ho, Sem.run_bind, run_build w ty _ cs hb, Result.andThen_ok]
  rfl
theorem step_load (ty : TypeId) (x : Operand) (b f : Nat) (C : Array Value) (hg : o.guard = none) (ho : o.op = .load ty x) (hx : a.eval x = .pointer (some ⟨b, f, none⟩)) (hc : w.rangeAt b f C.toList) (d : TypeDesc)
    (hu : P.underlying ty = some d) (hd : d.isRow = true) (n : Nat) (hi : (P.info? ty).map (·.size) = some n) (hn : C.size = n) (h : wpList P ops Q rest (a.put o.dst (.agg C)) w) : wpList P ops Q (o :: rest) a w := by
  refine wpList_load_mid hg ty x ho b f hx C.toList d hc hu hd (by rw [hi, ← hn]; simp) ?_
  simpa using h
theorem step_store (ty : TypeId) (x y : Operand) (b f : Nat) (C : Array Value) (hg : o.guard = none) (ho : o.op = .store ty x y) (hx : a.eval x = .pointer (some ⟨b, f, none⟩)) (hy : a.eval y = .agg C) (n : Nat) (ht : w.there b f n) (hi : (P.info? ty).map (·.size) = some n) (hn : C.size = n) (h1 : C.all (·.oneCell') = true)
    (h : wpList P ops Q rest (a.put o.dst undef) (w.setCells b f C.toList)) : wpList P ops Q (o :: rest) a w := by
  refine wpList_store_mid hg ty x y ho b f C hx hy (by rw [hn]; exact ht) (by rw [hi, hn]) h1 h
end

/-! ### within a region that draws its order, ahead of its last operations -/
section
variable {P : Program} {ops : Array Oper} {rest : List Oper} {o : Oper} {a : Act} {w : World} {Q : Act → Prop}
theorem still_value (hg : o.guard = none) (v : Value) (hrun : (execOp a.eval o).run P w = .ok (.value v) w) (h : wpStill P ops w Q rest (a.put o.dst v)) : wpStill P ops w Q (o :: rest) a := by
  refine wpStill_step fun K hK => ?_
  rw [if_pos (by simp [Region.wanted, hg])]
  unfold Oper.still
  rw [hrun, Oper.stillUpon_value]
  exact hK _ h
theorem still_build (ty : TypeId) (parts : Array (Nat × Operand)) (cs : Array Value) (hg : o.guard = none) (ho : o.op = .build ty parts) (hb : P.built ty (parts.toList.map fun (i, x) => (i, a.eval x)) = some cs)
    (h : wpStill P ops w Q rest (a.put o.dst (.agg cs))) : wpStill P ops w Q (o :: rest) a := by
  refine still_value hg _ ?_ h
  unfold execOp
  rw [← Array.toList_map] at hb
  simp only [ho, Sem.run_bind, run_build w ty _ cs hb, Result.andThen_ok]
  rfl
theorem still_load (ty : TypeId) (x : Operand) (b f : Nat) (C : Array Value) (hg : o.guard = none) (ho : o.op = .load ty x) (hx : a.eval x = .pointer (some ⟨b, f, none⟩)) (hc : w.rangeAt b f C.toList) (d : TypeDesc)
    (hu : P.underlying ty = some d) (hd : d.isRow = true) (n : Nat) (hi : (P.info? ty).map (·.size) = some n) (hn : C.size = n) (h : wpStill P ops w Q rest (a.put o.dst (.agg C))) : wpStill P ops w Q (o :: rest) a := by
  refine still_value hg (.agg C) ?_ h
  have := run_loadAt_mid (P := P) w b f ty C.toList d hc hu hd (by rw [hi, ← hn]; simp)
  unfold execOp
  simp only [ho, hx, Sem.run_bind, this, Result.andThen_ok]
  simp
end

theorem bArr_one (bs : List Int) : (bArr bs).all (·.oneCell') = true := all_oneCell_toArray (by intro v hv; rw [List.mem_map] at hv; obtain ⟨_, _, rfl⟩ := hv; rfl)
theorem lArr_one (x : Lf) : (lArr x).all (·.oneCell') = true := all_oneCell_toArray (Lf.cells_one x)
theorem zArr_one : zArr.all (·.oneCell') = true := bArr_one _
theorem zLeaf_one : zLeaf.all (·.oneCell') = true := lArr_one _
theorem zArr_size : zArr.size = 48 := bArr_size (by simp)
theorem zLeaf_size : zLeaf.size = 49 := lArr_size Lf.zero_ok

theorem foldl_set (off : Nat) : ∀ (vs : List Value) (k : Nat) (cur : Array Value), off + k + vs.length ≤ cur.size →
    ((vs.zipIdx k).foldl (fun cs (x : Value × Nat) => cs.setIfInBounds (off + x.2) x.1) cur) = (cur.toList.take (off + k) ++ vs ++ cur.toList.drop (off + k + vs.length)).toArray
  | [], k, cur, _ => by simp
  | v :: rest, k, cur, hl => by
    simp only [List.zipIdx_cons, List.foldl_cons]
    rw [foldl_set off rest (k + 1) _ (by simp at hl ⊢; omega)]
    have e := list_seg_step cur.toList (off + k) v rest (by simp at hl ⊢; omega)
    simpa [Array.toList_setIfInBounds, Nat.add_assoc] using e
theorem Try.built76z : Try.prog.built 76 [] = some zLeaf := by kernel_rfl
theorem Try.built26z : Try.prog.built 26 [] = some zArr := by kernel_rfl
theorem Try.built76 (i : Int) (bs : List Int) (hb : bs.length = 48) : Try.prog.built 76 [(0, .int .i64 i), (1, .agg (bArr bs))] = some (lArr ⟨i, bs⟩) := by
  have hz := Try.zero76
  cases hi : Try.prog.info? 76 with
  | none => simp [hi] at hz
  | some it =>
    simp only [hi, Option.map_some, Option.some.injEq] at hz
    have hi3 : (Try.prog.info? 3).map (·.size) = some 1 := by kernel_rfl
    have hi26 := Try.size26
    cases h3 : Try.prog.info? 3 with
    | none => simp [h3] at hi3
    | some i3 =>
      cases h26 : Try.prog.info? 26 with
      | none => simp [h26] at hi26
      | some i26 =>
        simp only [h3, h26, Option.map_some, Option.some.injEq] at hi3 hi26
        have e : ∀ (vs : List Value), vs.length = 48 → (vs.toArray.zipIdx.foldl (fun cs (x : Value × Nat) => cs.setIfInBounds (1 + x.2) x.1) (zLeaf.setIfInBounds 0 (.int .i64 i))) = (.int .i64 i :: vs).toArray := by
          intro vs hv
          have hzs := zLeaf_size
          rw [← Array.foldl_toList, Array.toList_zipIdx]
          have := foldl_set 1 vs 0 (zLeaf.setIfInBounds 0 (.int .i64 i)) (by simp; omega)
          simp only [Nat.add_zero] at this
          rw [this]
          rw [List.drop_of_length_le (by simp; omega)]
          simp [zLeaf, Lf.cells]
        have hx := e (bs.map (Value.int .u8)) (by simp [hb])
        have hzs := zLeaf_size
        simp only [Program.built, hi, Try.underlying76, hz]
        simp [h3, h26, hi3, hi26, Instr.fill, Value.cells, bArr_size hb, hzs]
        rw [show (48 : Nat) = (bArr bs).zipIdx.size from by simp [bArr_size hb]]
        exact hx
end Go.Proofs.Ytdjkkpefljapcaa
