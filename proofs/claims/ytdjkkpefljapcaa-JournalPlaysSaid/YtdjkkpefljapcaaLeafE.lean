/- The contracts of leaf.New, and of Pad.Leaf, Ink, Blot, Fork. -/
import Derived.Test.YtdjkkpefljapcaaLeafD
import Derived.StillTailTactics
namespace Go.Proofs.Ytdjkkpefljapcaa
open Go.RowKit
set_option linter.unusedVariables false
set_option linter.unusedSimpArgs false

theorem ret_agg2 {fn : Func} {p u : Tmp} {ty : TypeId} (h : fn.results = #[.cell p ty, .tmp u]) (tmps : Array Value) (w : World) (g : Nat) (t : TypeId) (C : Array Value) (d : TypeDesc) (v : Value) (hv : tmps.getD u undef = v) (hp : tmps.getD p undef = .pointer (some ⟨g, 0, none⟩)) (hg : Blk w g t C)
    (hu : Try.prog.underlying ty = some d) (hd : d.isRow = true) (n : Nat) (hi : (Try.prog.info? ty).map (·.size) = some n) (hn : C.size = n) :
    (results fn tmps).run Try.prog w = .ok (.tuple #[.agg C, v]) w := by
  rw [results_cell_tmp h, hp, hv]
  have := run_loadVar_row (P := Try.prog) w g t ty C (0, 0) d hg hu (by cases d <;> simp_all) (by rw [hi, hn])
  simp [asAddr, this, Result.andThen]

section
variable {w : World} {g h : Nat} {p : Pd}
theorem zstore_below (w : World) : Below w.heap.size w ((w.alloc (.cells zArr 26)).setCells w.heap.size 0 zArr.toList) :=
  ((Below.refl _ _).alloc (Nat.le_refl _) _).trans ((Off.refl w.heap.size w.heap.size _).setCells (.inl rfl) _ _ |>.below (Nat.le_refl _) (Nat.le_refl _) (by simp))

set_option maxRecDepth 100000 in
theorem leaf_nil (n : Int) (w : World) : Calls Try.prog 18 #[.pointer none, .int .i64 n] w fun e w' => e = .returned (.tuple #[.agg zArr, .bool false]) ∧ Below w.heap.size w w' := by
  go_enter Try.func18, Try.ntmps18
  go_wp2_with (first
    | (with_reducible refine step_alloc 26 zArr Try.zero26 rfl rfl ?_)
    | (refine step_build 26 #[] zArr rfl rfl Try.built26z ?_)
    | (refine step_store 26 _ _ w.heap.size 0 zArr rfl rfl rfl rfl 48 ((Blk.new _ _ _).allThere zArr_size) Try.size26 zArr_size zArr_one ?_))
  exact bodyPost_ret (v := .tuple #[.agg zArr, .bool false]) (ret_agg2 rfl _ _ _ _ _ _ _ rfl rfl ((Blk.new w 26 zArr).overwrite (D := zArr) rfl) Try.underlying26 rfl 48 Try.size26 zArr_size) rfl ⟨rfl, zstore_below w⟩

set_option maxRecDepth 100000 in
theorem leaf_out (n : Int) (a : PadAt w g h p) (hn : n < 0 ∨ (p.l.length : Int) ≤ n) : Calls Try.prog 18 #[.pointer (some ⟨g, 0, none⟩), .int .i64 n] w fun e w' => e = .returned (.tuple #[.agg zArr, .bool false]) ∧ Below w.heap.size w w' := by
  have HA := Lib.hid (a.alloc (.cells zArr 26))
  have HN := Lib.hid hn
  clear a hn
  go_enter Try.func18, Try.ntmps18
  go_wp2_with (with_reducible refine step_alloc 26 zArr Try.zero26 rfl rfl ?_)
  refine (there_no n HA.out HN.out).mono ?_
  rintro e w1 ⟨rfl, rfl⟩
  go_wp2_with (first
    | (refine step_build 26 #[] zArr rfl rfl Try.built26z ?_)
    | (refine step_store 26 _ _ w.heap.size 0 zArr rfl rfl rfl rfl 48 ((Blk.new _ _ _).allThere zArr_size) Try.size26 zArr_size zArr_one ?_))
  exact bodyPost_ret (v := .tuple #[.agg zArr, .bool false]) (ret_agg2 rfl _ _ _ _ _ _ _ rfl rfl ((Blk.new w 26 zArr).overwrite (D := zArr) rfl) Try.underlying26 rfl 48 Try.size26 zArr_size) rfl ⟨rfl, zstore_below w⟩

set_option maxRecDepth 100000 in
theorem leaf_blank (n : Nat) (a : PadAt w g h p) (hn : n < p.l.length) (h0 : (p.at n).is = 0) : Calls Try.prog 18 #[.pointer (some ⟨g, 0, none⟩), .int .i64 n] w fun e w' => e = .returned (.tuple #[.agg zArr, .bool false]) ∧ Below w.heap.size w w' := by
  have a1 := a.alloc (.cells zArr 26)
  have c0 := a1.c0
  have c1 : (_ : World).cell? ⟨h, n * 49, none⟩ = some (Value.int .i64 (p.at n).is) := a1.is_ hn
  rw [h0] at c1
  have hlen := a.len
  have HA := Lib.hid a1
  clear a a1 h0
  go_enter Try.func18, Try.ntmps18
  go_wp2_with (with_reducible refine step_alloc 26 zArr Try.zero26 rfl rfl ?_)
  refine (there_yes n HA.out hn).mono ?_
  rintro e w1 ⟨rfl, rfl⟩
  go_wp2_with (first
    | (refine step_build 26 #[] zArr rfl rfl Try.built26z ?_)
    | (refine step_store 26 _ _ w.heap.size 0 zArr rfl rfl rfl rfl 48 ((Blk.new _ _ _).allThere zArr_size) Try.size26 zArr_size zArr_one ?_))
  exact bodyPost_ret (v := .tuple #[.agg zArr, .bool false]) (ret_agg2 rfl _ _ _ _ _ _ _ rfl rfl ((Blk.new w 26 zArr).overwrite (D := zArr) rfl) Try.underlying26 rfl 48 Try.size26 zArr_size) rfl ⟨rfl, zstore_below w⟩

set_option maxRecDepth 100000 in
theorem leaf_some (n : Nat) (a : PadAt w g h p) (hn : n < p.l.length) (h0 : (p.at n).is ≠ 0) : Calls Try.prog 18 #[.pointer (some ⟨g, 0, none⟩), .int .i64 n] w fun e w' => e = .returned (.tuple #[.agg (bArr (p.at n).b), .bool true]) ∧ Below w.heap.size w w' := by
  have a1 := a.alloc (.cells zArr 26)
  have c0 := a1.c0
  have c1 : (_ : World).cell? ⟨h, n * 49, none⟩ = some (Value.int .i64 (p.at n).is) := a1.is_ hn
  have c2 : (w.alloc (.cells zArr 26)).rangeAt h (n * 49 + 1) (bArr (p.at n).b).toList := a1.bytes hn
  have hz : ((p.at n).is == 0) = false := by simpa using h0
  have hsz : (bArr (p.at n).b).size = 48 := bArr_size (a.ok.at_ hn).1
  have hlen := a.len
  have hlt := a.lt
  have HA := Lib.hid a1
  have HC := Lib.hid c2
  have HS := Lib.hid hsz
  clear a a1 h0 c2 hsz
  go_enter Try.func18, Try.ntmps18
  go_wp2_with (with_reducible refine step_alloc 26 zArr Try.zero26 rfl rfl ?_)
  refine (there_yes n HA.out hn).mono ?_
  rintro e w1 ⟨rfl, rfl⟩
  go_wp2_with (first
    | (refine step_load 26 _ h (n * 49 + 1) (bArr (p.at n).b) rfl rfl rfl HC.out _ Try.underlying26 rfl 48 Try.size26 HS.out ?_)
    | (refine step_store 26 _ _ w.heap.size 0 (bArr (p.at n).b) rfl rfl rfl rfl 48 ((Blk.new _ _ _).allThere zArr_size) Try.size26 HS.out (bArr_one _) ?_))
  refine bodyPost_ret (v := .tuple #[.agg (bArr (p.at n).b), .bool true]) (ret_agg2 rfl _ _ _ _ _ _ _ rfl rfl ((Blk.new w 26 zArr).overwrite (D := bArr (p.at n).b) (by rw [HS.out, zArr_size])) Try.underlying26 rfl 48 Try.size26 HS.out) rfl ⟨rfl, ?_⟩
  exact ((Below.refl _ _).alloc (Nat.le_refl _) _).trans ((Off.refl w.heap.size w.heap.size _).setCells (.inl rfl) _ _ |>.below (Nat.le_refl _) (Nat.le_refl _) (by simp))

/-- What stands on a leaf: its bytes, and whether it is there. -/
def Pd.tell (p : Pd) (n : Nat) : List Int × Bool := if (p.at n).is = 0 then (List.replicate 48 0, false) else ((p.at n).b, true)
theorem leaf_any (n : Nat) (a : PadAt w g h p) : Calls Try.prog 18 #[.pointer (some ⟨g, 0, none⟩), .int .i64 n] w fun e w' => e = .returned (.tuple #[.agg (bArr (p.tell n).1), .bool (p.tell n).2]) ∧ Below w.heap.size w w' := by
  by_cases hn : n < p.l.length
  · unfold Pd.tell
    by_cases h0 : (p.at n).is = 0
    · rw [if_pos h0]
      exact leaf_blank n a hn h0
    · rw [if_neg h0]
      exact leaf_some n a hn h0
  · have e : p.at n = Lf.zero := by
      unfold Pd.at
      rw [List.getD, List.getElem?_eq_none (by omega)]
      rfl
    unfold Pd.tell
    rw [e]
    exact leaf_out n a (by omega)

/-! ### Blot -/
set_option maxRecDepth 100000 in
theorem blot_down (n : Int) (a : PadAt w g h p) (hd : p.down = true) : Calls Try.prog 20 #[.pointer (some ⟨g, 0, none⟩), .int .i64 n] w fun e w' => e = .returned (.int .i64 15) ∧ w = w' := by
  have HA := Lib.hid a
  clear a
  go_enter Try.func20, Try.ntmps20
  go_wp2_with fail
  refine (ready_down HA.out hd).mono ?_
  rintro e w1 ⟨rfl, rfl⟩
  go_wp2_with fail
  go_ret
  exact ⟨rfl, rfl⟩
set_option maxRecDepth 100000 in
theorem blot_nil (n : Int) (w : World) : Calls Try.prog 20 #[.pointer none, .int .i64 n] w fun e w' => e = .returned (.int .i64 2) ∧ w = w' := by
  go_enter Try.func20, Try.ntmps20
  go_wp2_with fail
  refine (ready_nil _).mono ?_
  rintro e w1 ⟨rfl, rfl⟩
  go_wp2_with fail
  go_ret
  exact ⟨rfl, rfl⟩
set_option maxRecDepth 100000 in
theorem blot_out (n : Int) (a : PadAt w g h p) (hd : p.down = false) (hn : n < 0 ∨ (p.l.length : Int) ≤ n) : Calls Try.prog 20 #[.pointer (some ⟨g, 0, none⟩), .int .i64 n] w fun e w' => e = .returned (.int .i64 1) ∧ w = w' := by
  have HA := Lib.hid a
  have HN := Lib.hid hn
  clear a hn
  go_enter Try.func20, Try.ntmps20
  go_wp2_with fail
  refine (ready_up HA.out hd).mono ?_
  rintro e w1 ⟨rfl, rfl⟩
  go_wp2_with fail
  refine (there_no n HA.out HN.out).mono ?_
  rintro e w1 ⟨rfl, rfl⟩
  go_wp2_with fail
  go_ret
  exact ⟨rfl, rfl⟩
set_option maxRecDepth 100000 in
theorem blot_up (n : Nat) (a : PadAt w g h p) (hf : p.falls < 1000000000) (hd : p.down = false) (hn : n < p.l.length) (hs : p.snag ≠ 1) : Calls Try.prog 20 #[.pointer (some ⟨g, 0, none⟩), .int .i64 n] w fun e w' => e = .returned (.int .i64 0) ∧ PadAt w' g h (p.stroke.put n Lf.zero) ∧ Off g h w w' := by
  have hs' : decide (p.snag = 1) = false := by simpa using hs
  have HA := Lib.hid a
  have hlen := a.len
  clear a
  go_enter Try.func20, Try.ntmps20
  go_wp2_with fail
  refine (ready_up HA.out hd).mono ?_
  rintro e w1 ⟨rfl, rfl⟩
  go_wp2_with fail
  refine (there_yes n HA.out hn).mono ?_
  rintro e w1 ⟨rfl, rfl⟩
  go_wp2_with fail
  refine (stroke_any HA.out hf hd).mono ?_
  rintro e w1 ⟨rfl, hp, ho⟩
  rw [hs']
  have c0 := hp.c0
  have hn2 : n < p.stroke.l.length := by rw [stroke_l]; exact hn
  have hroom := hp.room hn2
  have HR := Lib.hid hroom
  have HP := Lib.hid hp
  have HO := Lib.hid ho
  have hl2 : p.stroke.l.length ≤ 20000 := by rw [stroke_l]; exact hlen
  clear hp ho hroom
  go_wp2_with (first
    | (refine step_build 76 #[] zLeaf rfl rfl Try.built76z ?_)
    | (refine step_store 76 _ _ h (n * 49) zLeaf rfl rfl rfl rfl 49 HR.out Try.size76 zLeaf_size zLeaf_one ?_))
  go_ret
  exact ⟨rfl, HP.out.setLeaf hn2 Lf.zero_ok, HO.out.setCells (.inr (.inl rfl)) _ _⟩
set_option maxRecDepth 100000 in
theorem blot_snag (n : Nat) (a : PadAt w g h p) (hf : p.falls < 1000000000) (hd : p.down = false) (hn : n < p.l.length) (hs : p.snag = 1) : Calls Try.prog 20 #[.pointer (some ⟨g, 0, none⟩), .int .i64 n] w fun e w' => e = .returned (.int .i64 15) ∧ PadAt w' g h p.stroke ∧ Off g h w w' := by
  have hs' : decide (p.snag = 1) = true := by simpa using hs
  have HA := Lib.hid a
  clear a hs
  go_enter Try.func20, Try.ntmps20
  go_wp2_with fail
  refine (ready_up HA.out hd).mono ?_
  rintro e w1 ⟨rfl, rfl⟩
  go_wp2_with fail
  refine (there_yes n HA.out hn).mono ?_
  rintro e w1 ⟨rfl, rfl⟩
  go_wp2_with fail
  refine (stroke_any HA.out hf hd).mono ?_
  rintro e w1 ⟨rfl, hp, ho⟩
  rw [hs']
  have HP := Lib.hid hp
  have HO := Lib.hid ho
  clear hp ho
  go_wp2_with fail
  go_ret
  exact ⟨rfl, HP.out, HO.out⟩

/-! ### Ink -/
set_option maxRecDepth 100000 in
theorem ink_down (n : Int) (b : List Int) (a : PadAt w g h p) (hd : p.down = true) : Calls Try.prog 19 #[.pointer (some ⟨g, 0, none⟩), .int .i64 n, .agg (bArr b)] w fun e w' => e = .returned (.int .i64 15) ∧ Below w.heap.size w w' := by
  have HA := Lib.hid (a.alloc (.cells (bArr b) 26))
  clear a
  go_enter Try.func19, Try.ntmps19
  go_wp2_with fail
  refine (ready_down HA.out hd).mono ?_
  rintro e w1 ⟨rfl, rfl⟩
  go_wp2_with fail
  go_ret
  exact ⟨rfl, (Below.refl _ _).alloc (Nat.le_refl _) _⟩
set_option maxRecDepth 100000 in
theorem ink_nil (n : Int) (b : List Int) (w : World) : Calls Try.prog 19 #[.pointer none, .int .i64 n, .agg (bArr b)] w fun e w' => e = .returned (.int .i64 2) ∧ Below w.heap.size w w' := by
  go_enter Try.func19, Try.ntmps19
  go_wp2_with fail
  refine (ready_nil _).mono ?_
  rintro e w1 ⟨rfl, rfl⟩
  go_wp2_with fail
  go_ret
  exact ⟨rfl, (Below.refl _ _).alloc (Nat.le_refl _) _⟩
set_option maxRecDepth 100000 in
theorem ink_out (n : Int) (b : List Int) (a : PadAt w g h p) (hd : p.down = false) (hn : n < 0 ∨ (p.l.length : Int) ≤ n) : Calls Try.prog 19 #[.pointer (some ⟨g, 0, none⟩), .int .i64 n, .agg (bArr b)] w fun e w' => e = .returned (.int .i64 1) ∧ Below w.heap.size w w' := by
  have HA := Lib.hid (a.alloc (.cells (bArr b) 26))
  have HN := Lib.hid hn
  clear a hn
  go_enter Try.func19, Try.ntmps19
  go_wp2_with fail
  refine (ready_up HA.out hd).mono ?_
  rintro e w1 ⟨rfl, rfl⟩
  go_wp2_with fail
  refine (there_no n HA.out HN.out).mono ?_
  rintro e w1 ⟨rfl, rfl⟩
  go_wp2_with fail
  go_ret
  exact ⟨rfl, (Below.refl _ _).alloc (Nat.le_refl _) _⟩
set_option maxRecDepth 100000 in
theorem ink_state (n : Nat) (b : List Int) (a : PadAt w g h p) (hd : p.down = false) (hn : n < p.l.length) (h0 : (p.at n).is ≠ 0) : Calls Try.prog 19 #[.pointer (some ⟨g, 0, none⟩), .int .i64 n, .agg (bArr b)] w fun e w' => e = .returned (.int .i64 13) ∧ Below w.heap.size w w' := by
  have a1 := a.alloc (.cells (bArr b) 26)
  have c0 := a1.c0
  have c1 : (_ : World).cell? ⟨h, n * 49, none⟩ = some (Value.int .i64 (p.at n).is) := a1.is_ hn
  have hz : ((p.at n).is != 0) = true := by simpa using h0
  have hlen := a.len
  have HA := Lib.hid a1
  clear a a1 h0
  go_enter Try.func19, Try.ntmps19
  go_wp2_with fail
  refine (ready_up HA.out hd).mono ?_
  rintro e w1 ⟨rfl, rfl⟩
  go_wp2_with fail
  refine (there_yes n HA.out hn).mono ?_
  rintro e w1 ⟨rfl, rfl⟩
  go_wp2_with fail
  go_ret
  exact ⟨rfl, (Below.refl _ _).alloc (Nat.le_refl _) _⟩
set_option maxRecDepth 100000 in
theorem ink_put (n : Nat) (b : List Int) (e : Int) (a : PadAt w g h p) (hf : p.falls < 1000000000) (hd : p.down = false) (hn : n < p.l.length) (h0 : (p.at n).is = 0) (hb : b.length = 48) (hby : isBytes b) (he : (if p.snag = 1 then 15 else 0) = e) : Calls Try.prog 19 #[.pointer (some ⟨g, 0, none⟩), .int .i64 n, .agg (bArr b)] w fun e' w' => e' = .returned (.int .i64 e) ∧ PadAt w' g h (p.put n ⟨1, b⟩).stroke ∧ Off g h w w' := by
  have a1 := a.alloc (.cells (bArr b) 26)
  have c0 := a1.c0
  have c1 : (_ : World).cell? ⟨h, n * 49, none⟩ = some (Value.int .i64 (p.at n).is) := a1.is_ hn
  rw [h0] at c1
  have hlen := a.len
  have HA := Lib.hid a1
  clear a a1 h0
  go_enter Try.func19, Try.ntmps19
  go_wp2_with fail
  refine (ready_up HA.out hd).mono ?_
  rintro e w1 ⟨rfl, rfl⟩
  go_wp2_with fail
  refine (there_yes n HA.out hn).mono ?_
  rintro e w1 ⟨rfl, rfl⟩
  go_wp2_with fail
  refine wp_region_still_tail 8 (by kernel_rfl) (by kernel_rfl) ?_
  simp only [List.take_succ_cons, List.take_zero, List.drop_succ_cons, List.drop_zero]
  change wpStill _ _ (w.alloc (.cells (bArr b) 26)).drew _ _ _
  have HB := Lib.hid (Blk.new w 26 (bArr b)).drew
  have HD := Lib.hid HA.out.drew
  have hroom := HD.out.room hn
  have HR := Lib.hid hroom
  have HBS := Lib.hid (bArr_size hb)
  have hok : (Lf.mk 1 b).ok := ⟨hb, hby, by simp, by simp⟩
  have HOK := Lib.hid hok
  have HLS := Lib.hid (lArr_size hok)
  have HBU := Lib.hid (Try.built76 1 b hb)
  have HHB := Lib.hid hb
  clear hroom hok c1 hby hb
  repeat (first
    | (refine still_load 26 _ w.heap.size 0 (bArr b) rfl rfl rfl HB.out.all _ Try.underlying26 rfl 48 Try.size26 HBS.out ?_)
    | (refine still_build 76 _ (lArr ⟨1, b⟩) rfl rfl HBU.out ?_)
    | still_step)
  refine wpStill_nil ?_
  change wpList _ _ _ _ _ (w.alloc (.cells (bArr b) 26)).drew
  go_wp2_with (refine step_store 76 _ _ h (n * 49) (lArr ⟨1, b⟩) rfl rfl rfl rfl 49 HR.out Try.size76 HLS.out (lArr_one _) ?_)
  have hp1 : PadAt ((w.alloc (.cells (bArr b) 26)).drew.setCells h (n * 49) (lArr ⟨1, b⟩).toList) g h (p.put n ⟨1, b⟩) := HD.out.setLeaf hn HOK.out
  have HP := Lib.hid hp1
  clear hp1
  refine (stroke_any HP.out hf hd).mono ?_
  rintro e' w2 ⟨rfl, hp2, ho2⟩
  have HP2 := Lib.hid hp2
  have HO2 := Lib.hid ho2
  have hoff : Off g h w ((w.alloc (.cells (bArr b) 26)).drew.setCells h (n * 49) (lArr ⟨1, b⟩).toList) := (((Off.refl g h w).alloc _).drew).setCells (.inr (.inl rfl)) _ _
  have HOF := Lib.hid hoff
  clear hp2 ho2 hoff
  by_cases hs : p.snag = 1
  · have hs' : decide ((p.put n ⟨1, b⟩).snag = 1) = true := decide_eq_true hs
    rw [if_pos hs] at he
    subst he
    rw [hs']
    clear hs' hs
    go_wp2_with fail
    go_ret
    exact ⟨rfl, HP2.out, HOF.out.trans HO2.out⟩
  · have hs' : decide ((p.put n ⟨1, b⟩).snag = 1) = false := decide_eq_false hs
    rw [if_neg hs] at he
    subst he
    rw [hs']
    clear hs' hs
    go_wp2_with fail
    go_ret
    exact ⟨rfl, HP2.out, HOF.out.trans HO2.out⟩

set_option maxRecDepth 100000 in
theorem fork_nil (w : World) : Calls Try.prog 27 #[.pointer none] w fun e w' => e = .returned (.pointer none) ∧ w = w' := by
  go_enter Try.func27, Try.ntmps27
  go_wp2_with fail
  go_ret
  exact ⟨rfl, rfl⟩

theorem Try.info_leaf : (Try.prog.info? 76).map (fun i => (i.zero, i.size, i.bytes)) = some (some (.agg zLeaf), 49, 56) := by kernel_rfl
theorem okL_rep (n : Nat) : okL (List.replicate n Lf.zero) := fun x hx => by rw [List.eq_of_mem_replicate hx]; exact Lf.zero_ok
theorem madeCells_leaf (n : Nat) : (madeCells zLeaf (n * 49)).toList = rowC (List.replicate n Lf.zero) := by
  apply List.ext_getElem?
  intro j
  have hz := zLeaf_size
  have hok := okL_rep n
  by_cases hj : j < n * 49
  · have e : j = j / 49 * 49 + j % 49 := by omega
    have h1 : j / 49 < n := by omega
    have h2 := rowC_at hok (n := j / 49) (j := j % 49) (by simpa using h1) (by omega)
    rw [← e] at h2
    rw [h2, List.getD, List.getElem?_replicate, if_pos h1]
    simp only [madeCells, hz, Option.getD_some]
    have h3 : j % 49 < zLeaf.size := by omega
    rw [Array.toList_map, List.getElem?_map, Array.getElem?_toList, Array.getElem?_range, if_pos hj]
    simp only [Option.map_some]
    rw [getElem!_pos zLeaf (j % 49) h3, ← Array.getElem?_eq_getElem h3]
    unfold zLeaf
    rw [List.getElem?_toArray]
  · rw [List.getElem?_eq_none (by simp [madeCells, hz]; omega), List.getElem?_eq_none (by rw [rowC_length hok]; simp; omega)]

theorem new_fin (n : Int) (m : Nat) (hm : (min (max n 0) 20000).toNat = m) (w w1 : World) (hown : w1.ownsRow w.heap.size 76 49 (.slice (some ⟨w.heap.size, 0, none⟩) m m) m (madeCells zLeaf (m * 49)).toList) (hg : w.grownBy w1 none) :
    PadAt (w1.alloc (.cells #[.slice (some ⟨w.heap.size, 0, none⟩) m m, .int .i64 0, .int .i64 0, .bool false] 73)) w1.heap.size w.heap.size (Pd.new n) ∧ w.heap.size ≤ w1.heap.size ∧ Below w.heap.size w (w1.alloc (.cells #[.slice (some ⟨w.heap.size, 0, none⟩) m m, .int .i64 0, .int .i64 0, .bool false] 73)) := by
  have hb1 : Below w.heap.size w w1 := (Below.refl _ _).grown hg (Nat.le_refl _) (fun _ h => by cases h)
  obtain ⟨cur, hblk, hcs, htk⟩ := own_blk hown
  rw [List.take_of_length_le (by simp; omega), madeCells_leaf] at htk
  have hlt := hblk.lt
  have hblk' := hblk.alloc (.cells #[.slice (some ⟨w.heap.size, 0, none⟩) m m, .int .i64 0, .int .i64 0, .bool false] 73)
  refine ⟨⟨?_, ?_, ?_, by omega, ?_, by simp [Pd.new], by simp [Pd.new]⟩, hb1.size, hb1.alloc hb1.size _⟩
  · have := Blk.new w1 73 #[.slice (some ⟨w.heap.size, 0, none⟩) m m, .int .i64 0, .int .i64 0, .bool false]
    simpa [Pd.cells, Pd.new, hm] using this
  · have e : cur = (rowC (Pd.new n).l).toArray := by
      unfold Pd.new
      rw [hm, ← htk]
    rw [← e]
    exact hblk'
  · unfold Pd.new
    exact okL_rep _
  · unfold Pd.new
    simp
    omega

set_option maxRecDepth 100000 in
theorem new_any (n : Int) (h0 : -9223372036854775808 ≤ n) (h1 : n ≤ 9223372036854775807) (w : World) : Calls Try.prog 15 #[.int .i64 n] w fun e w' => ∃ g h, e = .returned (.pointer (some ⟨g, 0, none⟩)) ∧ PadAt w' g h (Pd.new n) ∧ w.heap.size ≤ g ∧ w.heap.size ≤ h ∧ Below w.heap.size w w' := by
  obtain ⟨i0, hi, hz0, hz1, hz2⟩ := info_parts Try.info_leaf
  obtain ⟨m, hm⟩ : ∃ m : Nat, (min (max n 0) 20000).toNat = m := ⟨_, rfl⟩
  have HM := Lib.hid hm
  clear hm
  have hbb : i0.bytes * m ≤ 281474976710656 := by rw [hz2]; have := HM.out; omega
  have hml : m ≤ maxLen := by unfold maxLen; have := HM.out; omega
  by_cases c1 : n < 0
  · have hm0 : m = 0 := by have := HM.out; omega
    subst hm0
    go_enter Try.func15, Try.ntmps15
    go_wp2_with (at_make; refine wpList_make_full _ rfl _ _ 71 rfl w.heap.size 76 i0 (.agg zLeaf) 49 Try.underlying71 hi hz0 hz1 _ _ _ _ 0 rfl rfl (by omega) (by omega) hbb hml (Nat.le_refl _) ?_)
    intro w1 hown hg
    have HO := Lib.hid (new_fin n 0 HM.out w w1 hown hg)
    clear hown hg
    go_wp2_with fail
    go_ret
    exact ⟨_, _, rfl, HO.out.1, HO.out.2.1, Nat.le_refl _, HO.out.2.2⟩
  · by_cases c2 : 20000 < n
    · have hm0 : m = 20000 := by have := HM.out; omega
      subst hm0
      go_enter Try.func15, Try.ntmps15
      go_wp2_with (at_make; refine wpList_make_full _ rfl _ _ 71 rfl w.heap.size 76 i0 (.agg zLeaf) 49 Try.underlying71 hi hz0 hz1 _ _ _ _ 20000 rfl rfl (by omega) (by omega) hbb hml (Nat.le_refl _) ?_)
      intro w1 hown hg
      have HO := Lib.hid (new_fin n 20000 HM.out w w1 hown hg)
      clear hown hg
      go_wp2_with fail
      go_ret
      exact ⟨_, _, rfl, HO.out.1, HO.out.2.1, Nat.le_refl _, HO.out.2.2⟩
    · obtain ⟨k, rfl⟩ : ∃ k : Nat, n = k := ⟨n.toNat, by omega⟩
      have hm0 : k = m := by have := HM.out; omega
      subst hm0
      go_enter Try.func15, Try.ntmps15
      go_wp2_with (at_make; refine wpList_make_full _ rfl _ _ 71 rfl w.heap.size 76 i0 (.agg zLeaf) 49 Try.underlying71 hi hz0 hz1 _ _ _ _ k rfl rfl (by omega) (by omega) hbb hml (Nat.le_refl _) ?_)
      intro w1 hown hg
      have HO := Lib.hid (new_fin k k HM.out w w1 hown hg)
      clear hown hg
      go_wp2_with fail
      go_ret
      exact ⟨_, _, rfl, HO.out.1, HO.out.2.1, Nat.le_refl _, HO.out.2.2⟩
end
end Go.Proofs.Ytdjkkpefljapcaa
