/- JournalPlays: rows of records that are copied and joined; the steps of the walk for them, guarded or not. -/
import Derived.Test.YtdjkkpefljapcaaPlS
namespace Go.Proofs.Ytdjkkpefljapcaa
open Go.RowKit
set_option linter.unusedVariables false
set_option linter.unusedSimpArgs false

theorem Below.grownAt {B : Nat} {w w1 w2 : World} {row : Option Nat} (a : Below B w w1) (hg : w1.grownBy w2 row) (hB : B ≤ w1.heap.size) (hr : ∀ k, row = some k → B ≤ k) : Below B w w2 := a.grown hg hB hr
/-- append([][]byte(nil), have...). -/
theorem copy_run {w : World} {base : Nat} {vh : Value} {rs : List (List Int)} (ty : TypeId) (hr : Recs w base vh rs) (hb : base ≤ w.heap.size) (hn : rs.length ≤ 1000) :
    ∃ v1 w1, (Builtin.append_ #[58, 58] ty #[.slice none 0 0, vh]).run Try.prog w = .ok v1 w1 ∧ Recs w1 base v1 rs ∧ Below w.heap.size w w1 ∧ (∀ k, v1.ownBlock = some k → w.heap.size ≤ k) := by
  obtain ⟨i0, hi, hz0, hz1, hz2⟩ := info_parts Try.info44
  obtain ⟨vs, hown, hvl, hbs⟩ := hr
  have hnil : w.ownsRow base 44 1 (.slice none 0 0) 0 [] := World.ownsRow_nil _ _ _ _
  rcases hown.2 with ⟨rfl, h0⟩ | ⟨g, cap, cur, rfl, hg, hh, rest⟩
  · refine ⟨_, w, run_append_owned_none (P := Try.prog) w base 58 ty 44 i0 1 Try.underlying58 hi _ 0 [] hnil, ?_, Below.refl _ _, fun k hk => by simp [Value.ownBlock] at hk⟩
    exact ⟨vs, by rw [h0] at hown ⊢; exact hown, hvl, hbs⟩
  · have hc := World.ownsRow.cells hown (g := g) rfl
    obtain ⟨v', w', hrun, h2, h3, _, h5⟩ := run_append_own_at (P := Try.prog) w base 58 ty 44 i0 _ 1 24 Try.underlying58 hi hz0 hz1 hz2 rfl (by decide) _ 0 [] hnil ⟨g, 0, none⟩ rs.length cap vs (by rw [hvl, Nat.mul_one]) hc (by
      intro u hu
      obtain ⟨i, hi', rfl⟩ := List.getElem_of_mem hu
      obtain ⟨A, c, e, _⟩ := own_form (hbs i (by omega))
      have : vs.getD i undef = vs[i] := by simp [List.getD, hi']
      rw [this] at e
      rw [e]
      rfl) (by unfold maxLen; omega) (by omega) hb
    rw [Nat.zero_add, List.nil_append] at h2
    have hbl : Below w.heap.size w w' := (Below.refl _ _).grown h3 (Nat.le_refl _) (fun k hk => by simp [Value.ownBlock] at hk)
    have hsf := Safe.of_below hbl none
    refine ⟨v', w', hrun, ⟨vs, h2, hvl, fun i hi => (hbs i hi).safe hsf (fun k e => by cases e)⟩, hbl, fun k hk => ?_⟩
    rcases h5 with h5 | h5
    · rw [hk] at h5; simp [Value.ownBlock] at h5
    · rw [hk] at h5; injection h5 with h5; omega
/-- append(.., x). -/
theorem join_run {w : World} {base B c : Nat} {v1 : Value} {rs : List (List Int)} {b : List Int} {A : Option Addr} (ty : TypeId) (hr : Recs w base v1 rs) (hob : OwnB w base (.slice A b.length c) b) (hB : Blk w B 44 #[.slice A b.length c]) (hb : base ≤ w.heap.size) (hn : rs.length ≤ 1000) :
    ∃ v2 w2, (Builtin.append_ #[58, 58] ty #[v1, .slice (some ⟨B, 0, none⟩) 1 1]).run Try.prog w = .ok v2 w2 ∧ Recs w2 base v2 (rs ++ [b]) ∧ w.grownBy w2 v1.ownBlock ∧ (∀ k, v2.ownBlock = some k → v1.ownBlock = some k ∨ w.heap.size ≤ k) := by
  obtain ⟨i0, hi, hz0, hz1, hz2⟩ := info_parts Try.info44
  obtain ⟨vs, hown, hvl, hbs⟩ := hr
  obtain ⟨g, cap, w', hrun, h2, h3, h4, h5⟩ := run_append_lies (P := Try.prog) w 58 ty base 44 i0 _ 1 24 Try.underlying58 hi hz0 hz1 hz2 rfl (by decide) v1 rs.length vs hown ⟨B, 0, none⟩ 1 1 [.slice A b.length c] rfl (fun j u hu => World.news_of_block hB j u (by simpa using hu)) (by
    intro u hu
    rw [List.mem_singleton] at hu
    subst hu
    rfl) (by omega) (by unfold maxLen; omega) (by omega) hb _ rfl
  refine ⟨_, w', hrun, recs_append hvl hbs ⟨vs, hown, hvl, hbs⟩ hob h2 h3, h3, fun k hk => ?_⟩
  simp only [Value.ownBlock, Option.some.injEq] at hk
  subst hk
  rcases h4 with h4 | h4
  · exact .inl h4
  · right; omega
theorem list_run (A : Option Addr) (n c : Nat) (w : World) : (Instr.buildSlice 58 1 #[(0, .slice A n c)]).run Try.prog w = .ok (.slice (some ⟨w.heap.size, 0, none⟩) 1 1) (w.alloc (.cells #[.slice A n c] 44)) := by
  obtain ⟨i0, hi, hz0, hz1, hz2⟩ := info_parts Try.info44
  refine run_buildSlice (P := Try.prog) w 58 44 1 _ _ i0 _ Try.underlying58 hi hz0 (by rw [hz1]; decide) (by rw [hz1]; decide) ?_
  rw [hz1]
  refine (fill_one _ _ 0 (.slice A n c) 0 1 rfl rfl (by simp)).trans ?_
  simp [Value.cells, show Array.range 1 = #[0] from rfl]
/-- The whole chain: append(append(nil, have...), x): all that is new lies behind. -/
theorem joined {w w2 : World} {base : Nat} {v1 v2 : Value} {rs : List (List Int)} (D : Nat) (hr : Recs w2 base v2 rs) (hg : w.grownBy w2 v1.ownBlock) (h1 : ∀ k, v1.ownBlock = some k → D ≤ k) (hD : D ≤ w.heap.size) (h2 : ∀ k, v2.ownBlock = some k → v1.ownBlock = some k ∨ w.heap.size ≤ k) :
    Below D w w2 ∧ ∀ k, v2.ownBlock = some k → D ≤ k :=
  ⟨(Below.refl D w).grown hg hD h1, fun k hk => by
    rcases h2 k hk with h | h
    · exact h1 k h
    · omega⟩

section
variable {P : Program} {ops : Array Oper} {rest : List Oper} {o : Oper} {a : Act} {w : World} {Q : Exit → Act → World → Prop}
theorem step_wanted' (hg : Region.wanted o (yielded ops a.tmps) = true) (v : Value) (w' : World) (hrun : (execOp a.eval o).run P w = .ok (.value v) w') (h : wpList P ops Q rest (a.put o.dst v) w') : wpList P ops Q (o :: rest) a w := by
  refine wpList_step fun K hK => ?_
  rw [if_pos hg]
  unfold Oper.wp
  rw [hrun, Oper.upon_value]
  exact hK _ _ h
theorem step_append {x y : Operand} {v1 v2 v3 : Value} {w' : World} (ho : o.op = .call { callee := .builtin .append, args := #[x, y], argTypes := #[58, 58] }) (hg : Region.wanted o (yielded ops a.tmps) = true) (hx : a.eval x = v1) (hy : a.eval y = v2)
    (hrun : (Builtin.append_ #[58, 58] o.type #[v1, v2]).run P w = .ok v3 w') (h : wpList P ops Q rest (a.put o.dst v3) w') : wpList P ops Q (o :: rest) a w := by
  refine step_wanted' hg v3 w' ?_ h
  unfold execOp
  simp only [ho, resolve, invoke, builtin, Sem.run_bind, Sem.run_pure, Result.andThen_ok, List.map_toArray, List.map_cons, List.map_nil, hx, hy, hrun]
theorem step_list {x : Operand} {A : Option Addr} {n c : Nat} {w w' : World} (ho : o.op = .buildSlice 58 1 #[(0, x)]) (hg : Region.wanted o (yielded ops a.tmps) = true) (hx : a.eval x = .slice A n c) (hw : w.alloc (.cells #[.slice A n c] 44) = w')
    (h : wpList Try.prog ops Q rest (a.put o.dst (.slice (some ⟨w.heap.size, 0, none⟩) 1 1)) w') : wpList Try.prog ops Q (o :: rest) a w := by
  subst hw
  refine step_wanted' hg _ _ ?_ h
  unfold execOp
  have e : ((#[(0, x)] : Array (Nat × Operand)).map fun (i, x) => (i, a.eval x)) = #[(0, .slice A n c)] := by simp [hx]
  simp only [ho, e, Sem.run_bind, list_run A n c w, Result.andThen_ok]
  rfl
end

theorem equalIn_nil44 (W : World) (d : Nat) (a : Option Addr) (l c : Nat) : (Op.equalIn (d + 1) 44 (.slice a l c) (.slice none 0 0)).run Try.prog W = .ok a.isNone W := by
  cases a <;> simp [Op.equalIn, run_underlying Try.underlying44]
theorem neq_nil44 (W : World) (a : Option Addr) (l c : Nat) : (binOp .neq 44 (.slice a l c) (.slice none 0 0)).run Try.prog W = .ok (.bool (!a.isNone)) W := by
  have e : (Op.equal 44 (.slice a l c) (.slice none 0 0)).run Try.prog W = .ok a.isNone W := equalIn_nil44 W 9999 a l c
  simp only [binOp]
  simp [e]
/-- append(append(nil, have...), x), whole. -/
theorem join_all {w : World} {base c : Nat} {vh : Value} {rs : List (List Int)} {b : List Int} {A : Option Addr} (hr : Recs w base vh rs) (ho : OwnB w base (.slice A b.length c) b) (hb : base ≤ w.heap.size) (hn : rs.length ≤ 1000) :
    ∃ v1 w1 v2 w3 Ah ch, (Builtin.append_ #[58, 58] 58 #[.slice none 0 0, vh]).run Try.prog w = .ok v1 w1 ∧ (Builtin.append_ #[58, 58] 58 #[v1, .slice (some ⟨w1.heap.size, 0, none⟩) 1 1]).run Try.prog (w1.alloc (.cells #[.slice A b.length c] 44)) = .ok v2 w3 ∧
      Recs w3 base v2 (rs ++ [b]) ∧ Below w.heap.size w w3 ∧ (∀ k, v2.ownBlock = some k → w.heap.size ≤ k) ∧ v2 = .slice Ah (rs.length + 1) ch ∧ Lst w3 w3.heap.size Ah (rs.length + 1) (rs ++ [b]) := by
  obtain ⟨v1, w1, h1, hr1, hb1, hv1⟩ := copy_run 58 hr hb hn
  have hb2 : Below w1.heap.size w1 (w1.alloc (.cells #[.slice A b.length c] 44)) := (Below.refl _ _).alloc (Nat.le_refl _) _
  have hb12 := hb1.trans (hb2.mono hb1.size)
  obtain ⟨v2, w3, h3, hr3, hg3, hv3⟩ := join_run (B := w1.heap.size) 58 (hr1.safe (Safe.of_below hb2 none) (.inl rfl)) (ho.safe (Safe.of_below hb12 none) (fun k e => by cases e)) (Blk.new w1 44 _) (Nat.le_trans hb hb12.size) hn
  obtain ⟨hb3, hv⟩ := joined w.heap.size hr3 hg3 hv1 hb12.size hv3
  obtain ⟨Ah, ch, e, hl⟩ := hr3.lst
  rw [List.length_append, List.length_singleton] at e hl
  exact ⟨v1, w1, v2, w3, Ah, ch, h1, h3, hr3, hb12.trans hb3, hv, e, hl⟩

section
variable {P : Program} {o : Oper} {a : Act} {w : World}
theorem exec_append {x y : Operand} {v1 v2 v3 : Value} {w' : World} (ho : o.op = .call { callee := .builtin .append, args := #[x, y], argTypes := #[58, 58] }) (hx : a.eval x = v1) (hy : a.eval y = v2)
    (hrun : (Builtin.append_ #[58, 58] o.type #[v1, v2]).run P w = .ok v3 w') : (execOp a.eval o).run P w = .ok (.value v3) w' := by
  unfold execOp
  simp only [ho, resolve, invoke, builtin, Sem.run_bind, Sem.run_pure, Result.andThen_ok, List.map_toArray, List.map_cons, List.map_nil, hx, hy, hrun]
theorem exec_list {x : Operand} {A : Option Addr} {n c : Nat} (ho : o.op = .buildSlice 58 1 #[(0, x)]) (hx : a.eval x = .slice A n c) : (execOp a.eval o).run Try.prog w = .ok (.value (.slice (some ⟨w.heap.size, 0, none⟩) 1 1)) (w.alloc (.cells #[.slice A n c] 44)) := by
  unfold execOp
  have e : ((#[(0, x)] : Array (Nat × Operand)).map fun (i, x) => (i, a.eval x)) = #[(0, .slice A n c)] := by simp [hx]
  simp only [ho, e, Sem.run_bind, list_run A n c w, Result.andThen_ok]
  rfl
end
/-- The last of the chain: all is there, in whatever order it came. -/
theorem join_end {s w : World} {base B c : Nat} {v1 : Value} {rs : List (List Int)} {b : List Int} {A : Option Addr} (hs : Below s.heap.size s w) (hr : Recs w base v1 rs) (hv : ∀ k, v1.ownBlock = some k → s.heap.size ≤ k) (ho : OwnB w base (.slice A b.length c) b) (hB : Blk w B 44 #[.slice A b.length c]) (hb : base ≤ s.heap.size) (hn : rs.length ≤ 1000) :
    ∃ v2 w3 Ah ch, (Builtin.append_ #[58, 58] 58 #[v1, .slice (some ⟨B, 0, none⟩) 1 1]).run Try.prog w = .ok v2 w3 ∧ Recs w3 base v2 (rs ++ [b]) ∧ Below s.heap.size s w3 ∧ (∀ k, v2.ownBlock = some k → s.heap.size ≤ k) ∧ v2 = .slice Ah (rs.length + 1) ch := by
  obtain ⟨v2, w3, h3, hr3, hg3, hv3⟩ := join_run 58 hr ho hB (Nat.le_trans hb hs.size) hn
  obtain ⟨hb3, hv'⟩ := joined s.heap.size hr3 hg3 hv hs.size hv3
  obtain ⟨Ah, ch, e, hl⟩ := hr3.lst
  rw [List.length_append, List.length_singleton] at e
  exact ⟨v2, w3, Ah, ch, h3, hr3, hs.trans hb3, hv', e⟩

/-! ### the copy of an Op -/
def z66 : Array Value := #[.int .i64 0, .int .i64 0, .slice none 0 0, .slice none 0 0]
theorem Try.zero66 : (Try.prog.info? 66).map (·.zero) = some (some (.agg z66)) := by kernel_rfl
theorem Try.size66 : (Try.prog.info? 66).map (·.size) = some 4 := by kernel_rfl
def w66 (w : World) (cs : List Value) : World := (w.alloc (.cells z66 66)).setCells w.heap.size 0 cs
theorem w66_blk (w : World) (cs : List Value) (h : cs.length = 4) : Blk (w66 w cs) w.heap.size 66 cs.toArray := by
  have := (Blk.new w 66 z66).overwrite (D := cs.toArray) (by simp [h, z66])
  exact this
theorem w66_below (w : World) (cs : List Value) : Below w.heap.size w (w66 w cs) := ((Below.refl _ _).alloc (Nat.le_refl _) _).trans ((Off.refl w.heap.size w.heap.size _).setCells (.inl rfl) _ _ |>.below (Nat.le_refl _) (Nat.le_refl _) (by simp))
theorem step_put66 {ops : Array Oper} {rest : List Oper} {o : Oper} {a : Act} {w w0 W : World} {Q : Exit → Act → World → Prop} (cs : List Value) (x y : Operand) (ho : o.op = .store 66 x y) (hg : o.guard = none) (hw : w0 = w.alloc (.cells z66 66)) (hx : a.eval x = .pointer (some ⟨w.heap.size, 0, none⟩)) (hy : a.eval y = .agg cs.toArray) (hc : cs.length = 4) (h1 : cs.toArray.all (·.oneCell') = true) (hW : w66 w cs = W)
    (h : wpList Try.prog ops Q rest (a.put o.dst undef) W) : wpList Try.prog ops Q (o :: rest) a w0 := by
  subst hw hW
  exact step_store 66 x y w.heap.size 0 cs.toArray hg ho hx hy 4 ((Blk.new _ _ _).allThere rfl) Try.size66 (by simp [hc]) h1 h
theorem one66 (kd nn : Int) (A1 A2 : Option Addr) (n1 c1 n2 c2 : Nat) : ([Value.int .i64 kd, .int .i64 nn, .slice A1 n1 c1, .slice A2 n2 c2].toArray).all (·.oneCell') = true := by
  simp [Value.oneCell']
theorem OpRow.range {w : World} {a : Option Addr} {len cap : Nat} {l : List OpV} (h : OpRow w a len cap l) {i : Nat} (hi : i < len) : ∃ b o, a = some ⟨b, o, none⟩ ∧ b < w.heap.size ∧ (∀ w', Below w.heap.size w w' → w'.rangeAt b (o + i * 4) (l.getD i OpV.zero).cells) ∧ l.getD i OpV.zero ∈ l := by
  obtain ⟨b, o, ha, hb, hc⟩ := h.2.2.2 (by omega)
  refine ⟨b, o, ha, hb, fun w' hw j u hu => ?_, ?_⟩
  · have hj : j < 4 := by have := (List.getElem?_eq_some_iff.1 hu).1; simpa [OpV.cells] using this
    rw [hw.cell (p := ⟨b, o + i * 4 + j, none⟩) hb, Nat.add_assoc, hc i hi j hj]
    exact hu
  · rw [List.getD, List.getElem?_eq_getElem (by rw [h.1]; exact hi)]
    exact List.getElem_mem _
end Go.Proofs.Ytdjkkpefljapcaa
