/- A pad of leaves in plain Lean, and where it lies in memory: a block of four cells, and a row of leaves, 49 cells to one. -/
import Derived.Test.YtdjkkpefljapcaaLib
import Derived.Test.YtdjkkpefljapcaaAdler
import Derived.Deep.MidRow
import Derived.Laws.CopyRow
namespace Go.Proofs.Ytdjkkpefljapcaa
open Go.RowKit

/-! ### one leaf -/
structure Lf where
  is : Int
  b : List Int
def Lf.zero : Lf := ⟨0, List.replicate 48 0⟩
def Lf.cells (x : Lf) : List Value := .int .i64 x.is :: x.b.map (Value.int .u8)
/-- 48 bytes, and one of three states. -/
def Lf.ok (x : Lf) : Prop := x.b.length = 48 ∧ isBytes x.b ∧ 0 ≤ x.is ∧ x.is ≤ 2
theorem isBytes_rep (n : Nat) (v : Int) (h0 : 0 ≤ v) (h1 : v < 256) : isBytes (List.replicate n v) := by
  intro b hb
  have := List.eq_of_mem_replicate hb
  omega
theorem Lf.zero_ok : Lf.zero.ok := ⟨by simp [Lf.zero], isBytes_rep _ _ (by omega) (by omega), by simp [Lf.zero], by simp [Lf.zero]⟩
theorem Lf.cells_length {x : Lf} (h : x.ok) : x.cells.length = 49 := by simp [Lf.cells, h.1]
theorem Lf.cells_one (x : Lf) : ∀ v ∈ x.cells, v.oneCell' = true := by
  intro v hv
  unfold Lf.cells at hv
  rw [List.mem_cons, List.mem_map] at hv
  rcases hv with rfl | ⟨_, _, rfl⟩ <;> rfl

/-! ### a row of leaves -/
def rowC (l : List Lf) : List Value := l.flatMap Lf.cells
def okL (l : List Lf) : Prop := ∀ x ∈ l, x.ok
theorem okL.at_ {l : List Lf} (h : okL l) {n : Nat} (hn : n < l.length) : (l.getD n Lf.zero).ok := by
  simp only [List.getD, List.getElem?_eq_getElem hn, Option.getD_some]
  exact h _ (List.getElem_mem hn)
theorem okL.getD {l : List Lf} (h : okL l) (n : Nat) : (l.getD n Lf.zero).ok := by
  by_cases hn : n < l.length
  · exact h.at_ hn
  · simp only [List.getD, List.getElem?_eq_none (Nat.le_of_not_lt hn), Option.getD_none]
    exact Lf.zero_ok
theorem okL.set {l : List Lf} (h : okL l) (n : Nat) {x : Lf} (hx : x.ok) : okL (l.set n x) := by
  intro y hy
  rcases List.mem_or_eq_of_mem_set hy with hy | rfl
  · exact h y hy
  · exact hx
theorem rowC_nil : rowC [] = [] := rfl
theorem rowC_cons (x : Lf) (l : List Lf) : rowC (x :: l) = x.cells ++ rowC l := by simp [rowC, List.flatMap_cons]
theorem rowC_append (a b : List Lf) : rowC (a ++ b) = rowC a ++ rowC b := by simp [rowC, List.flatMap_append]
theorem rowC_length {l : List Lf} (h : okL l) : (rowC l).length = l.length * 49 := by
  induction l with
  | nil => rfl
  | cons x l ih => rw [rowC_cons, List.length_append, ih (fun y hy => h y (by simp [hy])), Lf.cells_length (h x (by simp))]; simp; omega
theorem rowC_at {l : List Lf} (h : okL l) {n j : Nat} (hn : n < l.length) (hj : j < 49) : (rowC l)[n * 49 + j]? = (l.getD n Lf.zero).cells[j]? := by
  induction l generalizing n with
  | nil => simp at hn
  | cons x l ih =>
    have hx := Lf.cells_length (h x (by simp))
    rw [rowC_cons]
    cases n with
    | zero => rw [List.getElem?_append_left (by omega)]; simp
    | succ n =>
      rw [List.getElem?_append_right (by omega), hx, show (n + 1) * 49 + j - 49 = n * 49 + j from by omega, ih (fun y hy => h y (by simp [hy])) (by simpa using hn)]
      simp
theorem rowC_set {l : List Lf} (h : okL l) {n : Nat} (hn : n < l.length) {x : Lf} (hx : x.ok) :
    (rowC l).take (n * 49) ++ x.cells ++ (rowC l).drop (n * 49 + x.cells.length) = rowC (l.set n x) := by
  have hl := Lf.cells_length hx
  induction l generalizing n with
  | nil => simp at hn
  | cons y l ih =>
    have hy := Lf.cells_length (h y (by simp))
    cases n with
    | zero =>
      rw [rowC_cons, List.set_cons_zero, rowC_cons]
      simp only [Nat.zero_mul, List.take_zero, List.nil_append, Nat.zero_add]
      rw [List.drop_append_of_le_length (by omega), List.drop_of_length_le (by omega)]
      simp
    | succ n =>
      rw [rowC_cons, List.set_cons_succ, rowC_cons, ← ih (fun z hz => h z (by simp [hz])) (by simpa using hn)]
      have e1 : (n + 1) * 49 = y.cells.length + n * 49 := by omega
      have e2 : (n + 1) * 49 + x.cells.length = y.cells.length + (n * 49 + x.cells.length) := by omega
      rw [e2, e1, List.take_length_add_append, List.drop_length_add_append]
      simp
theorem Lf.cells_is {x : Lf} (i : Int) : x.cells.set 0 (.int .i64 i) = (Lf.mk i x.b).cells := by simp [Lf.cells]
theorem rowC_set_is {l : List Lf} (h : okL l) {n : Nat} (hn : n < l.length) (i : Int) :
    (rowC l).set (n * 49) (.int .i64 i) = rowC (l.set n ⟨i, (l.getD n Lf.zero).b⟩) := by
  induction l generalizing n with
  | nil => simp at hn
  | cons y l ih =>
    have hy := Lf.cells_length (h y (by simp))
    cases n with
    | zero =>
      rw [rowC_cons, List.set_cons_zero, rowC_cons, Nat.zero_mul, List.set_append_left _ _ (by omega), Lf.cells_is]
      simp
    | succ n =>
      rw [rowC_cons, List.set_cons_succ, rowC_cons, List.set_append_right _ _ (by omega), show (n + 1) * 49 - y.cells.length = n * 49 from by omega, ih (fun z hz => h z (by simp [hz])) (by simpa using hn)]
      simp

/-! ### many cells at once -/
theorem setCells_row (g : Nat) (t : TypeId) : ∀ (vs : List Value) (o : Nat) (cur : Array Value) (w : World), w.heap[g]? = some (.cells cur t (0, 0)) → o + vs.length ≤ cur.size →
    w.setCells g o vs = w.setRow g (cur.toList.take o ++ vs ++ cur.toList.drop (o + vs.length)).toArray
  | [], o, cur, w, hg, _ => by
    simp only [World.setCells, List.append_nil, List.length_nil, Nat.add_zero, List.take_append_drop, Array.toArray_toList]
    rw [setRow_self w g cur t (0, 0) hg]
  | v :: rest, o, cur, w, hg, hl => by
    have ih := setCells_row g t rest (o + 1) (cur.setIfInBounds o v) (w.setRow g (cur.setIfInBounds o v)) (setRow_heap w g cur _ t _ hg) (by simp at hl ⊢; omega)
    rw [World.setCells, setCell_eq_setRow w g o cur t (0, 0) v hg, ih, setRow_setRow]
    congr 2
    have e := list_seg_step cur.toList o v rest (by simp at hl ⊢; omega)
    simpa [Array.toList_setIfInBounds, Nat.add_assoc] using e
theorem Blk.setCells {w : World} {g : Nat} {t : TypeId} {cs : Array Value} (h : Blk w g t cs) (o : Nat) (vs : List Value) (hl : o + vs.length ≤ cs.size) :
    Blk (w.setCells g o vs) g t (cs.toList.take o ++ vs ++ cs.toList.drop (o + vs.length)).toArray := by
  rw [setCells_row g t vs o cs w h hl]
  exact setRow_heap w g cs _ t _ h
theorem heap_setCells_other (g : Nat) : ∀ (vs : List Value) (o : Nat) (w : World) (k : Nat), k ≠ g → (w.setCells g o vs).heap[k]? = w.heap[k]?
  | [], _, _, _, _ => rfl
  | v :: r, o, w, k, h => by rw [World.setCells, heap_setCells_other g r (o + 1) _ k h]; exact Below.heap_setCell w _ v k h
theorem setCells_same (g : Nat) : ∀ (vs : List Value) (o : Nat) (w : World), (w.setCells g o vs).os = w.os ∧ (w.setCells g o vs).tape = w.tape ∧ (w.setCells g o vs).output = w.output ∧ (w.setCells g o vs).heap.size = w.heap.size
  | [], _, _ => ⟨rfl, rfl, rfl, rfl⟩
  | v :: r, o, w => by
    obtain ⟨h1, h2, h3, h4⟩ := setCells_same g r (o + 1) (w.setCell ⟨g, o, none⟩ v)
    exact ⟨h1, h2, h3, h4.trans (by simp [World.setCell])⟩
theorem Blk.range {w : World} {g : Nat} {t : TypeId} {cs : Array Value} (h : Blk w g t cs) (o : Nat) (vs : List Value) (hv : ∀ j v, vs[j]? = some v → cs[o + j]? = some v) : w.rangeAt g o vs := fun j v hj => by
  rw [h.cell]
  exact hv j v hj
theorem Blk.there {w : World} {g : Nat} {t : TypeId} {cs : Array Value} (h : Blk w g t cs) (o n : Nat) (hn : o + n ≤ cs.size) : w.there g o n := fun j hj => by
  refine ⟨?_, h.frozen _⟩
  rw [h.cell, Array.getElem?_eq_getElem (by omega)]
  rfl

/-! ### all blocks but two are as they were -/
structure Off (g h : Nat) (w w' : World) : Prop where
  os : w'.os = w.os
  tape : w'.tape = w.tape
  output : w'.output = w.output
  size : w.heap.size ≤ w'.heap.size
  block : ∀ k, k < w.heap.size → k ≠ g → k ≠ h → w'.heap[k]? = w.heap[k]?

section
variable {g h : Nat} {w w' w'' : World}
theorem Off.refl (g h : Nat) (w : World) : Off g h w w := ⟨rfl, rfl, rfl, Nat.le_refl _, fun _ _ _ _ => rfl⟩
theorem Off.trans (a : Off g h w w') (b : Off g h w' w'') : Off g h w w'' :=
  ⟨b.os.trans a.os, b.tape.trans a.tape, b.output.trans a.output, Nat.le_trans a.size b.size, fun k h0 h1 h2 => (b.block k (Nat.lt_of_lt_of_le h0 a.size) h1 h2).trans (a.block k h0 h1 h2)⟩
theorem Off.of_below (a : Below w.heap.size w w') : Off g h w w' := ⟨a.os, a.tape, a.output, a.size, fun k h0 _ _ => a.block k h0⟩
theorem Off.drew (a : Off g h w w') : Off g h w w'.drew := ⟨a.os, a.tape, a.output, a.size, a.block⟩
theorem Off.alloc (a : Off g h w w') (o : Obj) : Off g h w (w'.alloc o) := a.trans (Off.of_below ((Below.refl _ _).alloc (Nat.le_refl _) o))
theorem Off.setCell (a : Off g h w w') {p : Addr} (hp : p.block = g ∨ p.block = h ∨ w.heap.size ≤ p.block) (u : Value) : Off g h w (w'.setCell p u) :=
  ⟨a.os, a.tape, a.output, by have := a.size; simpa [World.setCell] using this, fun k h0 h1 h2 => (Below.heap_setCell w' p u k (by omega)).trans (a.block k h0 h1 h2)⟩
theorem Off.setCells (a : Off g h w w') {b : Nat} (hp : b = g ∨ b = h ∨ w.heap.size ≤ b) (o : Nat) (vs : List Value) : Off g h w (w'.setCells b o vs) := by
  obtain ⟨h1, h2, h3, h4⟩ := setCells_same b vs o w'
  exact ⟨h1.trans a.os, h2.trans a.tape, h3.trans a.output, by have := a.size; omega, fun k k0 k1 k2 => (heap_setCells_other b vs o w' k (by omega)).trans (a.block k k0 k1 k2)⟩
theorem Off.below {B : Nat} (a : Off g h w w') (h1 : B ≤ g) (h2 : B ≤ h) (h3 : B ≤ w.heap.size) : Below B w w' := ⟨a.os, a.tape, a.output, a.size, fun k hk => a.block k (by omega) (by omega) (by omega)⟩
theorem Off.blk {k : Nat} {t : TypeId} {cs : Array Value} (a : Off g h w w') (hb : Blk w k t cs) (h1 : k ≠ g) (h2 : k ≠ h) : Blk w' k t cs := (a.block k hb.lt h1 h2).trans hb
theorem Off.reads {B s n : Nat} {A : Option Addr} {xs : List Value} (a : Off g h w w') (hr : Reads w B s A n xs) (h1 : B ≤ g) (h2 : B ≤ h) (h3 : B ≤ w.heap.size) : Reads w' B s A n xs := hr.below (a.below h1 h2 h3)
theorem Off.nums {B n : Nat} {k : IntKind} {A : Option Addr} {xs : List Int} (a : Off g h w w') (hr : Nums k w B A n xs) (h1 : B ≤ g) (h2 : B ≤ h) (h3 : B ≤ w.heap.size) : Nums k w' B A n xs := hr.below (a.below h1 h2 h3)
end

/-! ### the pad -/
structure Pd where
  l : List Lf
  snag : Int
  falls : Int
  down : Bool
def Pd.cells (p : Pd) (h : Nat) : Array Value := #[.slice (some ⟨h, 0, none⟩) p.l.length p.l.length, .int .i64 p.snag, .int .i64 p.falls, .bool p.down]

/-- The pad p lies in blocks g (its four cells) and h (its leaves). -/
structure PadAt (w : World) (g h : Nat) (p : Pd) : Prop where
  head : Blk w g 73 (p.cells h)
  row : Blk w h 76 (rowC p.l).toArray
  ok : okL p.l
  ne : g ≠ h
  len : p.l.length ≤ 20000
  snag : 0 ≤ p.snag ∧ p.snag ≤ 9223372036854775807
  falls : 0 ≤ p.falls ∧ p.falls ≤ 1000000000

section
variable {w w' : World} {g h : Nat} {p : Pd}
theorem PadAt.keep (a : PadAt w g h p) (k1 : ∀ t cs, Blk w g t cs → Blk w' g t cs) (k2 : ∀ t cs, Blk w h t cs → Blk w' h t cs) : PadAt w' g h p := ⟨k1 _ _ a.head, k2 _ _ a.row, a.ok, a.ne, a.len, a.snag, a.falls⟩
theorem PadAt.off {g' h' : Nat} (a : PadAt w g h p) (k : Off g' h' w w') (h1 : g ≠ g') (h2 : g ≠ h') (h3 : h ≠ g') (h4 : h ≠ h') : PadAt w' g h p := a.keep (fun _ _ b => k.blk b h1 h2) (fun _ _ b => k.blk b h3 h4)
theorem PadAt.below (a : PadAt w g h p) (k : Below w.heap.size w w') : PadAt w' g h p := a.keep (fun _ _ b => b.below k b.lt) (fun _ _ b => b.below k b.lt)
theorem PadAt.alloc (a : PadAt w g h p) (o : Obj) : PadAt (w.alloc o) g h p := a.below ((Below.refl _ _).alloc (Nat.le_refl _) o)
theorem PadAt.drew (a : PadAt w g h p) : PadAt w.drew g h p := a.keep (fun _ _ b => b) (fun _ _ b => b)
theorem PadAt.far (a : PadAt w g h p) {q : Addr} (h1 : g ≠ q.block) (h2 : h ≠ q.block) (u : Value) : PadAt (w.setCell q u) g h p := a.keep (fun _ _ b => b.far h1 u) (fun _ _ b => b.far h2 u)
theorem PadAt.c0 (a : PadAt w g h p) : w.cell? ⟨g, 0, none⟩ = some (.slice (some ⟨h, 0, none⟩) p.l.length p.l.length) := by rw [a.head.cell]; rfl
theorem PadAt.c1 (a : PadAt w g h p) : w.cell? ⟨g, 1, none⟩ = some (.int .i64 p.snag) := by rw [a.head.cell]; rfl
theorem PadAt.c2 (a : PadAt w g h p) : w.cell? ⟨g, 2, none⟩ = some (.int .i64 p.falls) := by rw [a.head.cell]; rfl
theorem PadAt.c3 (a : PadAt w g h p) : w.cell? ⟨g, 3, none⟩ = some (.bool p.down) := by rw [a.head.cell]; rfl
theorem PadAt.f (a : PadAt w g h p) (i : Nat) : w.frozen? ⟨g, i, none⟩ = false := a.head.frozen i
theorem PadAt.fr (a : PadAt w g h p) (i : Nat) : w.frozen? ⟨h, i, none⟩ = false := a.row.frozen i
theorem PadAt.lt (a : PadAt w g h p) : g < w.heap.size ∧ h < w.heap.size := ⟨a.head.lt, a.row.lt⟩
theorem PadAt.size (a : PadAt w g h p) : (rowC p.l).toArray.size = p.l.length * 49 := by simpa using rowC_length a.ok
theorem PadAt.rc (a : PadAt w g h p) {n j : Nat} (hn : n < p.l.length) (hj : j < 49) : w.cell? ⟨h, n * 49 + j, none⟩ = (p.l.getD n Lf.zero).cells[j]? := by
  rw [a.row.cell, List.getElem?_toArray, rowC_at a.ok hn hj]
theorem PadAt.is_ (a : PadAt w g h p) {n : Nat} (hn : n < p.l.length) : w.cell? ⟨h, n * 49, none⟩ = some (.int .i64 (p.l.getD n Lf.zero).is) := by
  have := a.rc hn (show 0 < 49 by omega)
  rw [Nat.add_zero] at this
  rw [this]
  rfl
theorem PadAt.leaf (a : PadAt w g h p) {n : Nat} (hn : n < p.l.length) : w.rangeAt h (n * 49) (p.l.getD n Lf.zero).cells := fun j v hv => by
  have hl := Lf.cells_length (a.ok.at_ hn)
  have hj := (List.getElem?_eq_some_iff.1 hv).1
  rw [a.rc hn (by omega), hv]
theorem PadAt.bytes (a : PadAt w g h p) {n : Nat} (hn : n < p.l.length) : w.rangeAt h (n * 49 + 1) ((p.l.getD n Lf.zero).b.map (Value.int .u8)) := fun j v hv => by
  have := a.leaf hn (j + 1) v (by simpa [Lf.cells] using hv)
  rw [show n * 49 + 1 + j = n * 49 + (j + 1) from by omega]
  exact this
theorem PadAt.room (a : PadAt w g h p) {n : Nat} (hn : n < p.l.length) : w.there h (n * 49) 49 := a.row.there _ _ (by rw [a.size]; omega)
theorem PadAt.setLeaf (a : PadAt w g h p) {n : Nat} (hn : n < p.l.length) {x : Lf} (hx : x.ok) : PadAt (w.setCells h (n * 49) x.cells) g h { p with l := p.l.set n x } := by
  have hl := Lf.cells_length hx
  have h2 := a.row.setCells (n * 49) x.cells (by rw [a.size, hl]; omega)
  rw [rowC_set a.ok hn hx] at h2
  refine ⟨?_, h2, a.ok.set n hx, a.ne, by simpa using a.len, a.snag, a.falls⟩
  have := (heap_setCells_other h x.cells (n * 49) w g a.ne).trans a.head
  simpa [Pd.cells, Blk] using this
theorem PadAt.setIs (a : PadAt w g h p) {n : Nat} (hn : n < p.l.length) {i : Int} (h0 : 0 ≤ i) (h1 : i ≤ 2) : PadAt (w.setCell ⟨h, n * 49, none⟩ (.int .i64 i)) g h { p with l := p.l.set n ⟨i, (p.l.getD n Lf.zero).b⟩ } := by
  have hx := a.ok.at_ hn
  have h2 := a.row.set_ (n * 49) (.int .i64 i)
  simp only [List.setIfInBounds_toArray] at h2
  rw [rowC_set_is a.ok hn] at h2
  refine ⟨?_, h2, a.ok.set n ⟨hx.1, hx.2.1, h0, h1⟩, a.ne, by simpa using a.len, a.snag, a.falls⟩
  have := a.head.far (p := ⟨h, n * 49, none⟩) a.ne (.int .i64 i)
  simpa [Pd.cells] using this
theorem PadAt.setSnag (a : PadAt w g h p) {i : Int} (h0 : 0 ≤ i) (h1 : i ≤ 9223372036854775807) : PadAt (w.setCell ⟨g, 1, none⟩ (.int .i64 i)) g h { p with snag := i } :=
  ⟨a.head.set_ 1 _, a.row.far (fun e => a.ne e.symm) _, a.ok, a.ne, a.len, ⟨h0, h1⟩, a.falls⟩
theorem PadAt.setSnag2 (a : PadAt w g h p) (v : Value) {i : Int} (h0 : 0 ≤ i) (h1 : i ≤ 9223372036854775807) : PadAt ((w.setCell ⟨g, 1, none⟩ v).setCell ⟨g, 1, none⟩ (.int .i64 i)) g h { p with snag := i } :=
  ⟨(a.head.set_ 1 v).set_ 1 _, (a.row.far (fun e => a.ne e.symm) _).far (fun e => a.ne e.symm) _, a.ok, a.ne, a.len, ⟨h0, h1⟩, a.falls⟩
theorem PadAt.setFalls (a : PadAt w g h p) {i : Int} (h0 : 0 ≤ i) (h1 : i ≤ 1000000000) : PadAt (w.setCell ⟨g, 2, none⟩ (.int .i64 i)) g h { p with falls := i } :=
  ⟨a.head.set_ 2 _, a.row.far (fun e => a.ne e.symm) _, a.ok, a.ne, a.len, a.snag, ⟨h0, h1⟩⟩
theorem PadAt.setDown (a : PadAt w g h p) (d : Bool) : PadAt (w.setCell ⟨g, 3, none⟩ (.bool d)) g h { p with down := d } :=
  ⟨a.head.set_ 3 _, a.row.far (fun e => a.ne e.symm) _, a.ok, a.ne, a.len, a.snag, a.falls⟩
end

/-! ### what is done with it -/
def Pd.sink (p : Pd) : Pd := { p with falls := if p.down then p.falls else p.falls + 1, down := true }
/-- A stroke of a pad that is not down. -/
def Pd.stroke (p : Pd) : Pd := if p.snag = 0 then p else if p.snag = 1 then { p with snag := 0, falls := p.falls + 1, down := true } else { p with snag := p.snag - 1 }
def Pd.there (p : Pd) (n : Int) : Prop := 0 ≤ n ∧ n < p.l.length
instance (p : Pd) (n : Int) : Decidable (p.there n) := by unfold Pd.there; exact inferInstance
def Pd.at (p : Pd) (n : Nat) : Lf := p.l.getD n Lf.zero
def Pd.put (p : Pd) (n : Nat) (x : Lf) : Pd := { p with l := p.l.set n x }

/-- Each wet leaf by f, with its number among the wet ones. -/
def eachL (f : Nat → Lf → Lf) : Nat → List Lf → List Lf
  | _, [] => []
  | i, x :: r => if x.is = 1 then f i x :: eachL f (i + 1) r else x :: eachL f i r
def wetN : List Lf → Nat
  | [] => 0
  | x :: r => if x.is = 1 then wetN r + 1 else wetN r
theorem wetN_append (a b : List Lf) : wetN (a ++ b) = wetN a + wetN b := by
  induction a with
  | nil => simp [wetN]
  | cons x a ih => simp only [List.cons_append, wetN]; split <;> omega
theorem wetN_le (l : List Lf) : wetN l ≤ l.length := by
  induction l with
  | nil => simp [wetN]
  | cons x a ih => simp only [List.length_cons, wetN]; split <;> omega
theorem eachL_append (f : Nat → Lf → Lf) (a b : List Lf) : ∀ i, eachL f i (a ++ b) = eachL f i a ++ eachL f (i + wetN a) b := by
  induction a with
  | nil => intro i; simp [eachL, wetN]
  | cons x a ih =>
    intro i
    simp only [List.cons_append, eachL, wetN]
    by_cases hx : x.is = 1
    · simp only [hx, if_true, ih, List.cons_append]
      rw [show i + 1 + wetN a = i + (wetN a + 1) from by omega]
    · simp only [hx, if_false, ih, List.cons_append]
theorem eachL_length (f : Nat → Lf → Lf) (a : List Lf) : ∀ i, (eachL f i a).length = a.length := by
  induction a with
  | nil => intro i; rfl
  | cons x a ih => intro i; simp only [eachL]; split <;> simp [ih]
/-- n leaves are done. -/
def doneL (f : Nat → Lf → Lf) (l : List Lf) (n : Nat) : List Lf := eachL f 0 (l.take n) ++ l.drop n
theorem doneL_zero (f : Nat → Lf → Lf) (l : List Lf) : doneL f l 0 = l := by simp [doneL, eachL]
theorem doneL_all (f : Nat → Lf → Lf) (l : List Lf) : doneL f l l.length = eachL f 0 l := by simp [doneL]
theorem doneL_length (f : Nat → Lf → Lf) (l : List Lf) (n : Nat) : (doneL f l n).length = l.length := by
  simp only [doneL, List.length_append, eachL_length, List.length_take, List.length_drop]
  omega
theorem doneL_at (f : Nat → Lf → Lf) (l : List Lf) (n : Nat) (hn : n < l.length) : (doneL f l n).getD n Lf.zero = l.getD n Lf.zero := by
  have e : (eachL f 0 (l.take n)).length = n := by rw [eachL_length]; simp; omega
  simp only [doneL, List.getD]
  rw [List.getElem?_append_right (by omega), e]
  simp
theorem doneL_dry (f : Nat → Lf → Lf) (l : List Lf) (n : Nat) (hn : n < l.length) (h : (l.getD n Lf.zero).is ≠ 1) : doneL f l (n + 1) = doneL f l n ∧ wetN (l.take (n + 1)) = wetN (l.take n) := by
  rw [List.getD, List.getElem?_eq_getElem hn, Option.getD_some] at h
  rw [doneL, doneL, List.take_succ_eq_append_getElem hn, eachL_append, wetN_append]
  rw [List.drop_eq_getElem_cons hn]
  simp [eachL, wetN, h]
theorem doneL_wet (f : Nat → Lf → Lf) (l : List Lf) (n : Nat) (hn : n < l.length) (h : (l.getD n Lf.zero).is = 1) :
    doneL f l (n + 1) = (doneL f l n).set n (f (wetN (l.take n)) (l.getD n Lf.zero)) ∧ wetN (l.take (n + 1)) = wetN (l.take n) + 1 := by
  rw [List.getD, List.getElem?_eq_getElem hn, Option.getD_some] at h ⊢
  have e : (eachL f 0 (l.take n)).length = n := by rw [eachL_length]; simp; omega
  rw [doneL, doneL, List.take_succ_eq_append_getElem hn, eachL_append, wetN_append]
  constructor
  · rw [List.set_append_right _ _ (by omega), e, Nat.sub_self, List.drop_eq_getElem_cons hn, List.set_cons_zero]
    simp [eachL, h]
  · simp [wetN, h]

def keptL (x : Lf) (n : Int) : Lf := if n < 1 then Lf.zero else ⟨2, x.b.take n.toNat ++ List.replicate (48 - n.toNat) 255⟩
def keepAt (keep : List Int) (i : Nat) : Int := keep.getD i 0
def Pd.dry (p : Pd) : Pd := { p with l := eachL (fun _ x => ⟨2, x.b⟩) 0 p.l }
def Pd.drop (p : Pd) (keep : List Int) : Pd := { p.sink with l := eachL (fun i x => keptL x (keepAt keep i)) 0 p.l }
def Pd.mend (p : Pd) : Pd := if p.down then { p with down := false, l := eachL (fun _ _ => Lf.zero) 0 p.l } else p
def Pd.new (n : Int) : Pd := ⟨List.replicate (min (max n 0) 20000).toNat Lf.zero, 0, 0, false⟩
theorem keptL_ok {x : Lf} (h : x.ok) (n : Int) : (keptL x n).ok := by
  unfold keptL
  split
  · exact Lf.zero_ok
  · refine ⟨by simp [h.1]; omega, ?_, by simp, by simp⟩
    intro b hb
    rcases List.mem_append.1 hb with hb | hb
    · exact h.2.1 b (List.mem_of_mem_take hb)
    · have := List.eq_of_mem_replicate hb
      omega
end Go.Proofs.Ytdjkkpefljapcaa
