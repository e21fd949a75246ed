/- Plain helpers for this seat's proofs: jumps back to labels; words for memory (a slice that reads as a list of cells). -/
import Derived.Below
import Derived.Laws.OwnMore
import Derived.Deep.AppendLies
import Derived.Deep.Draws
import Derived.Laws.Rows
import Derived.Laws.BitsAllLaws
import Derived.ScopeJumps
import Derived.ChangeSame
import Derived.Lib.Hide
import Derived.WalkKit
namespace Go.Proofs.Ytdjkkpefljapcaa
open Go.RowKit

/-! ### jumps back to labels -/
/-- As Q; by a goto to a label l: J l. -/
def jumps (J : Nat → Act → World → Prop) (Q : Exit → Act → World → Prop) : Exit → Act → World → Prop
  | .goto l, a, w => J l a w
  | e, a, w => Q e a w

def jlt (J : Nat → Act → World → Prop) (m : Nat → Act → World → Nat) (n : Nat) (l : Nat) (a : Act) (w : World) : Prop := J l a w ∧ m l a w < n

section
variable {P : Program} {a : Act} {w : World} {Q : Exit → Act → World → Prop}

theorem jumps_mono {J J' : Nat → Act → World → Prop} (h : ∀ l a w, J l a w → J' l a w) : ∀ e a w, jumps J Q e a w → jumps J' Q e a w := by
  intro e a w hq
  cases e with
  | goto l => exact h _ _ _ hq
  | _ => exact hq

theorem wp_skip_seq {c : Code} (h : c.wp P Q a w) : (Code.skip.seq c).wp P Q a w := by
  apply wp_seq_k
  intro _ hk
  apply wp_skip
  exact hk _ _ h

/-- A scope with labels: what holds each time a label is come to, and a measure that each way from a label to a label lowers. -/
theorem wp_scope_labels {c : Code} (J : Nat → Act → World → Prop) (m : Nat → Act → World → Nat) (rest : Nat → Code) (hf : ∀ l a w, J l a w → findLabel c l = some (Code.skip.seq (rest l)))
    (pass : ∀ l a w, J l a w → (∀ l' a' w', J l' a' w' → m l' a' w' < m l a w → (rest l').wp P (jumps (jlt J m (m l a w)) Q) a' w') → (rest l).wp P (jumps (jlt J m (m l a w)) Q) a w)
    (first : (∀ l a w, J l a w → (rest l).wp P (jumps J Q) a w) → c.wp P (jumps J Q) a w) : (Code.scope c).wp P Q a w := by
  have all : ∀ n l a w, m l a w = n → J l a w → (rest l).wp P (jumps (jlt J m (m l a w)) Q) a w := by
    intro n
    induction n using Nat.strongRecOn with
    | _ n ih =>
      intro l a w hn hJ
      refine pass l a w hJ fun l' a' w' hJ' hlt => ?_
      exact Code.wp_mono (jumps_mono fun _ _ _ h => ⟨h.1, Nat.lt_trans h.2 hlt⟩) (ih _ (by omega) l' a' w' rfl hJ')
  intro b k cs
  have hg : ∀ l a w, J l a w → gotoIn l (.inScope c :: k) = some (.code (Code.skip.seq (rest l)) :: .inScope c :: k) := fun l a w h => by simp [gotoIn, hf l a w h]
  have key : ∀ n l a w, m l a w = n → J l a w → ∃ e a' w', Q e a' w' ∧ Arrives P (lone (b.at a (.code (Code.skip.seq (rest l)) :: .inScope c :: k)) cs w) b k cs e a' w' := by
    intro n
    induction n using Nat.strongRecOn with
    | _ n ih =>
      intro l a w hn hJ
      obtain ⟨e, a₁, w₁, hq, harr⟩ := wp_skip_seq (all _ l a w rfl hJ) b (.inScope c :: k) cs
      cases e with
      | normal => exact ⟨.normal, a₁, w₁, hq, Steps.trans harr (.one step_inScope)⟩
      | exit id => exact ⟨.exit id, a₁, w₁, hq, fun k' hk => harr k' (by simp [exitTo, hk])⟩
      | goto l' =>
        obtain ⟨hJ', hlt⟩ := hq
        obtain ⟨e₂, a₂, w₂, hq₂, harr₂⟩ := ih _ (by omega) l' a₁ w₁ rfl hJ'
        exact ⟨e₂, a₂, w₂, hq₂, .of_steps (harr _ (hg _ _ _ hJ')) harr₂⟩
      | ret => exact ⟨_, a₁, w₁, hq, harr⟩
      | panic ch => exact ⟨_, a₁, w₁, hq, harr⟩
      | outgrown => exact ⟨_, a₁, w₁, hq, harr⟩
  obtain ⟨e, a₁, w₁, hq, harr⟩ := first (fun l a w h => Code.wp_mono (jumps_mono fun _ _ _ h => h.1) (all _ l a w rfl h)) b (.inScope c :: k) cs
  cases e with
  | normal => exact ⟨.normal, a₁, w₁, hq, .head step_scope (Steps.trans harr (.one step_inScope))⟩
  | exit id => exact ⟨.exit id, a₁, w₁, hq, fun k' hk => .head step_scope (harr k' (by simp [exitTo, hk]))⟩
  | goto l' =>
    obtain ⟨e₂, a₂, w₂, hq₂, harr₂⟩ := key _ l' a₁ w₁ rfl hq
    exact ⟨e₂, a₂, w₂, hq₂, .of_steps (.head step_scope (harr _ (hg _ _ _ hq))) harr₂⟩
  | ret => exact ⟨_, a₁, w₁, hq, .of_steps (.one step_scope) harr⟩
  | panic ch => exact ⟨_, a₁, w₁, hq, .of_steps (.one step_scope) harr⟩
  | outgrown => exact ⟨_, a₁, w₁, hq, .of_steps (.one step_scope) harr⟩

/-- As Q; by a goto to the first label: A; to the second: B. -/
def two (A B : Act → World → Prop) (Q : Exit → Act → World → Prop) : Exit → Act → World → Prop
  | .goto 0, a, w => A a w
  | .goto 1, a, w => B a w
  | .goto _, _, _ => False
  | e, a, w => Q e a w

/-- Two labels, the second behind the first. -/
theorem wp_scope_two {c r0 r1 : Code} (J0 J1 : Act → World → Prop) (m0 m1 : Act → World → Nat) (h0 : findLabel c 0 = some (Code.skip.seq r0)) (h1 : findLabel c 1 = some (Code.skip.seq r1))
    (pass0 : ∀ a w, J0 a w → (∀ a' w', J1 a' w' → m1 a' w' < m0 a w → r1.wp P (two (fun a' w' => J0 a' w' ∧ m0 a' w' < m0 a w) (fun a' w' => J1 a' w' ∧ m1 a' w' < m0 a w) Q) a' w') →
      r0.wp P (two (fun a' w' => J0 a' w' ∧ m0 a' w' < m0 a w) (fun a' w' => J1 a' w' ∧ m1 a' w' < m0 a w) Q) a w)
    (pass1 : ∀ a w, J1 a w → r1.wp P (two (fun a' w' => J0 a' w' ∧ m0 a' w' < m1 a w) (fun a' w' => J1 a' w' ∧ m1 a' w' < m1 a w) Q) a w)
    (first : (∀ a w, J0 a w → r0.wp P (two J0 J1 Q) a w) → c.wp P (two J0 J1 Q) a w) : (Code.scope c).wp P Q a w := by
  let J : Nat → Act → World → Prop := fun l a w => (l = 0 ∧ J0 a w) ∨ (l = 1 ∧ J1 a w)
  let m : Nat → Act → World → Nat := fun l a w => if l = 0 then m0 a w else m1 a w
  let rest : Nat → Code := fun l => if l = 0 then r0 else r1
  have to_two : ∀ n e a w, jumps (jlt J m n) Q e a w → two (fun a' w' => J0 a' w' ∧ m0 a' w' < n) (fun a' w' => J1 a' w' ∧ m1 a' w' < n) Q e a w := by
    intro n e a w h
    cases e with
    | goto l =>
      obtain ⟨h1, h2⟩ := h
      rcases h1 with ⟨rfl, h1⟩ | ⟨rfl, h1⟩
      · exact ⟨h1, h2⟩
      · exact ⟨h1, h2⟩
    | _ => exact h
  have of_two : ∀ n e a w, two (fun a' w' => J0 a' w' ∧ m0 a' w' < n) (fun a' w' => J1 a' w' ∧ m1 a' w' < n) Q e a w → jumps (jlt J m n) Q e a w := by
    intro n e a w h
    cases e with
    | goto l =>
      match l, h with
      | 0, h => exact ⟨.inl ⟨rfl, h.1⟩, h.2⟩
      | 1, h => exact ⟨.inr ⟨rfl, h.1⟩, h.2⟩
    | _ => exact h
  refine wp_scope_labels J m rest ?_ ?_ ?_
  · intro l a w h
    rcases h with ⟨rfl, _⟩ | ⟨rfl, _⟩
    · exact h0
    · exact h1
  · intro l a w h hlow
    rcases h with ⟨rfl, h⟩ | ⟨rfl, h⟩
    · exact Code.wp_mono (of_two _) (pass0 a w h fun a' w' h' hlt => Code.wp_mono (to_two _) (hlow 1 a' w' (.inr ⟨rfl, h'⟩) hlt))
    · exact Code.wp_mono (of_two _) (pass1 a w h)
  · intro hall
    have up : ∀ e a w, two J0 J1 Q e a w → jumps J Q e a w := by
      intro e a w h
      cases e with
      | goto l =>
        match l, h with
        | 0, h => exact .inl ⟨rfl, h⟩
        | 1, h => exact .inr ⟨rfl, h⟩
      | _ => exact h
    have down : ∀ e a w, jumps J Q e a w → two J0 J1 Q e a w := by
      intro e a w h
      cases e with
      | goto l =>
        rcases h with ⟨rfl, h⟩ | ⟨rfl, h⟩
        · exact h
        · exact h
      | _ => exact h
    exact Code.wp_mono up (first fun a w h => Code.wp_mono down (hall 0 a w (.inl ⟨rfl, h⟩)))

/-- One label. -/
theorem wp_scope_one {c rest : Code} (l : Nat) (J : Act → World → Prop) (m : Act → World → Nat) (hf : findLabel c l = some (Code.skip.seq rest))
    (pass : ∀ a w, J a w → rest.wp P (Exit.jump l (fun a' w' => J a' w' ∧ m a' w' < m a w) Q) a w)
    (first : (∀ a w, J a w → rest.wp P (Exit.jump l J Q) a w) → c.wp P (Exit.jump l J Q) a w) : (Code.scope c).wp P Q a w := by
  refine wp_scope_jumps l J m hf (first fun a w h => Code.wp_mono ?_ (pass a w h)) fun a w h => wp_skip_seq (pass a w h)
  intro e a w hq
  cases e with
  | goto l' => exact ⟨hq.1, hq.2.1⟩
  | _ => exact hq
end

/-! ### a slice that reads as a list of cells, nil let in -/
theorem block_of_add (a : Addr) (n : Nat) : (a.add n).block = a.block := by unfold Addr.add; split <;> rfl
theorem add_of_add (a : Addr) (i j : Nat) : (a.add i).add j = a.add (i + j) := by
  unfold Addr.add
  by_cases hi : i = 0 <;> by_cases hj : j = 0 <;> simp [hi, hj, Nat.add_assoc]

/-- The slice value '.slice A n c' holds the cells xs ('size' to an element), all below block B. -/
def Reads (w : World) (B size : Nat) (A : Option Addr) (n : Nat) (xs : List Value) : Prop :=
  xs.length = n * size ∧ (0 < n → ∃ ad, A = some ad ∧ ad.block < B ∧ ∀ j u, xs[j]? = some u → w.cell? (ad.add j) = some u)

section
variable {w w' : World} {B B' size n : Nat} {A : Option Addr} {xs : List Value}
theorem Reads.none_ : Reads w B size A 0 [] := ⟨by simp, fun h => absurd h (by omega)⟩
theorem Reads.at_ {k : Nat} (h : Reads w B 1 A n xs) (hk : k < n) : ∃ ad u, A = some ad ∧ ad.block < B ∧ xs[k]? = some u ∧ w.cell? (ad.add k) = some u := by
  obtain ⟨ad, e, hb, hc⟩ := h.2 (by omega)
  have hl : k < xs.length := by have := h.1; omega
  exact ⟨ad, xs[k], e, hb, List.getElem?_eq_getElem hl, hc k _ (List.getElem?_eq_getElem hl)⟩
theorem Reads.lit (h : Reads w B size A n xs) (hn : 0 < n) (hs : 0 < size) : ∃ b o, A = some ⟨b, o, none⟩ ∧ b < B ∧ ∀ j u, xs[j]? = some u → w.cell? ⟨b, o + j, none⟩ = some u := by
  obtain ⟨ad, e, hb, hc⟩ := h.2 hn
  have hl : 0 < xs.length := by rw [h.1]; exact Nat.mul_pos hn hs
  have h0 := hc 0 _ (List.getElem?_eq_getElem hl)
  obtain ⟨b, o, sp⟩ := ad
  have hsp : sp = none := by simpa [Addr.add] using World.cell?_spot h0
  subst hsp
  refine ⟨b, o, e, hb, fun j u hu => ?_⟩
  rw [← hc j u hu, Addr.add_lit]
theorem Reads.keep (h : Reads w B size A n xs) (hk : ∀ p : Addr, p.block < B → w'.cell? p = w.cell? p) : Reads w' B size A n xs :=
  ⟨h.1, fun hn => by
    obtain ⟨ad, e, hb, hc⟩ := h.2 hn
    exact ⟨ad, e, hb, fun j u hu => (hk _ (by rw [block_of_add]; exact hb)).trans (hc j u hu)⟩⟩
theorem Reads.more (h : Reads w B size A n xs) (hB : B ≤ B') : Reads w B' size A n xs :=
  ⟨h.1, fun hn => by
    obtain ⟨ad, e, hb, hc⟩ := h.2 hn
    exact ⟨ad, e, by omega, hc⟩⟩
theorem Reads.below (h : Reads w B size A n xs) (hb : Below B w w') : Reads w' B size A n xs := h.keep fun _ hp => hb.cell hp
theorem Reads.drew (h : Reads w B size A n xs) : Reads w.drew B size A n xs := h
theorem Reads.drewN (h : Reads w B size A n xs) (k : Nat) : Reads (w.drewN k) B size A n xs := h
theorem Reads.alloc (h : Reads w B size A n xs) (hB : B ≤ w.heap.size) (o : Obj) : Reads (w.alloc o) B size A n xs := h.keep fun p hp => World.cell?_alloc_lt w o p (by omega)
theorem Reads.setCell (h : Reads w B size A n xs) {p : Addr} (hB : B ≤ p.block) (u : Value) : Reads (w.setCell p u) B size A n xs :=
  h.keep fun q hq => World.cell?_setCell_other w p q u (fun e => by subst e; omega)
theorem Reads.grown (h : Reads w B size A n xs) {row : Option Nat} (hg : w.grownBy w' row) (hB : B ≤ w.heap.size) (hr : ∀ g, row = some g → B ≤ g) : Reads w' B size A n xs :=
  h.keep fun p hp => World.cell?_of_block (hg.block p.block (by omega) (fun e => by have := hr _ e.symm; omega))
theorem Reads.cut (h : Reads w B size A n xs) {k cap : Nat} (hk : k ≤ n) (hc : n ≤ cap) :
    Reads w B size (if cap = k then A else A.map (·.add (k * size))) (n - k) (xs.drop (k * size)) := by
  refine ⟨by rw [List.length_drop, h.1, Nat.sub_mul], fun hn => ?_⟩
  obtain ⟨ad, rfl, hb, hcell⟩ := h.2 (by omega)
  rw [if_neg (by omega)]
  refine ⟨ad.add (k * size), rfl, by rw [block_of_add]; exact hb, fun j u hu => ?_⟩
  rw [add_of_add]
  exact hcell _ u (by rw [← hu, List.getElem?_drop])
theorem Reads.take (h : Reads w B size A n xs) {k : Nat} (hk : k ≤ n) : Reads w B size A k (xs.take (k * size)) := by
  have hm : k * size ≤ n * size := Nat.mul_le_mul_right _ hk
  refine ⟨by rw [List.length_take, h.1]; omega, fun hn => ?_⟩
  obtain ⟨ad, e, hb, hcell⟩ := h.2 (by omega)
  refine ⟨ad, e, hb, fun j u hu => hcell j u ?_⟩
  rw [List.getElem?_take] at hu
  split at hu
  · exact hu
  · cases hu
theorem Reads.of_own {base : Nat} {e : TypeId} {c : Nat} (h : w.ownsRow base e size (.slice A n c) n xs) : Reads w w.heap.size size A n xs := by
  refine ⟨h.1, fun hn => ?_⟩
  obtain ⟨g, cap, hv, _, hlt⟩ := h.form hn
  have hA : A = some ⟨g, 0, none⟩ := by injection hv
  subst hA
  exact ⟨_, rfl, hlt, h.cells (g := g) rfl⟩
end

/-- What 's[l:h]' gives, its address under a name. -/
theorem slice_lh {P : Program} (t : TypeId) (ht : P.underlying t = some (.slice (P.elem t))) (A : Option Addr) (n cap l m : Nat) (h1 : l + m ≤ cap) (s : Nat) (hs : ∀ w, (sizeOf (P.elem t)).run P w = .ok s w) :
    ∃ A' : Option Addr, A' = (if cap = l then A else A.map (·.add (l * s))) ∧ ∀ w, (Instr.slice t (.slice A n cap) (some (.int .i64 (l : Int))) (some (.int .i64 ((l : Int) + (m : Int)))) none).run P w = .ok (.slice A' m (cap - l)) w := by
  refine ⟨_, rfl, fun w => ?_⟩
  rw [run_slice_lh w t A n cap ht .i64 .i64 (l : Int) ((l : Int) + (m : Int)) (by omega) (by omega) (by omega), hs]
  simp only [Result.andThen, sliced]
  have e1 : ((l : Int) + (m : Int)).toNat - (l : Int).toNat = m := by omega
  have e2 : (l : Int).toNat = l := by omega
  rw [e1, e2]
theorem slice_l {P : Program} (t : TypeId) (ht : P.underlying t = some (.slice (P.elem t))) (A : Option Addr) (n cap l : Nat) (h1 : l ≤ n) (s : Nat) (hs : ∀ w, (sizeOf (P.elem t)).run P w = .ok s w) :
    ∃ A' : Option Addr, A' = (if cap = l then A else A.map (·.add (l * s))) ∧ ∀ w, (Instr.slice t (.slice A n cap) (some (.int .i64 (l : Int))) none none).run P w = .ok (.slice A' (n - l) (cap - l)) w := by
  refine ⟨_, rfl, fun w => ?_⟩
  rw [run_slice_l w t A n cap ht .i64 (l : Int) (by omega) (by omega), hs]
  simp only [Result.andThen, sliced]
  have e2 : (l : Int).toNat = l := by omega
  rw [e2]

/-! ### a block that is known whole -/
def Blk (w : World) (g : Nat) (t : TypeId) (cs : Array Value) : Prop := w.heap[g]? = some (.cells cs t (0, 0))

section
variable {w w' : World} {g : Nat} {t : TypeId} {cs : Array Value}
theorem Blk.lt (h : Blk w g t cs) : g < w.heap.size := by
  rcases Nat.lt_or_ge g w.heap.size with hlt | hge
  · exact hlt
  · unfold Blk at h; rw [Array.getElem?_eq_none hge] at h; cases h
theorem Blk.cell (h : Blk w g t cs) (i : Nat) : w.cell? ⟨g, i, none⟩ = cs[i]? := cell_of_row w g i cs t (0, 0) h
theorem Blk.frozen (h : Blk w g t cs) (i : Nat) : w.frozen? ⟨g, i, none⟩ = false := by
  unfold Blk at h
  simp [World.frozen?, h]
theorem Blk.new (w : World) (t : TypeId) (cs : Array Value) : Blk (w.alloc (.cells cs t)) w.heap.size t cs := heap_alloc_new w _
theorem Blk.drew (h : Blk w g t cs) : Blk w.drew g t cs := h
theorem Blk.drewN (h : Blk w g t cs) (n : Nat) : Blk (w.drewN n) g t cs := h
theorem Blk.alloc (h : Blk w g t cs) (o : Obj) : Blk (w.alloc o) g t cs := (Below.heap_alloc w o g h.lt).trans h
theorem Blk.set_ (h : Blk w g t cs) (i : Nat) (u : Value) : Blk (w.setCell ⟨g, i, none⟩ u) g t (cs.setIfInBounds i u) := by
  unfold Blk at h ⊢
  simp [World.setCell, Array.getElem?_modify, h]
theorem Blk.far (h : Blk w g t cs) {p : Addr} (hp : g ≠ p.block) (u : Value) : Blk (w.setCell p u) g t cs := (Below.heap_setCell w p u g hp).trans h
theorem Blk.below {B : Nat} (h : Blk w g t cs) (hb : Below B w w') (hg : g < B) : Blk w' g t cs := (hb.block g hg).trans h
theorem Blk.grown {row : Option Nat} (h : Blk w g t cs) (hb : w.grownBy w' row) (hg : some g ≠ row) : Blk w' g t cs := (hb.block g h.lt hg).trans h
end

/-- Draws alone have been made. -/
def Quiet (w w' : World) : Prop := ∃ m, w' = w.drewN m
theorem Quiet.refl (w : World) : Quiet w w := ⟨0, by simp [World.drewN]⟩
theorem Quiet.trans {a b c : World} (h : Quiet a b) (k : Quiet b c) : Quiet a c := by
  obtain ⟨m, rfl⟩ := h
  obtain ⟨n, rfl⟩ := k
  exact ⟨m + n, by rw [World.drewN_drewN]⟩
theorem Quiet.drewN (w : World) (m : Nat) : Quiet w (w.drewN m) := ⟨m, rfl⟩
theorem Quiet.then_ {a b : World} (h : Quiet a b) (m : Nat) : Quiet a (b.drewN m) := h.trans (Quiet.drewN b m)
theorem Quiet.heap {a b : World} (h : Quiet a b) : b.heap = a.heap := by
  obtain ⟨m, rfl⟩ := h
  rfl
theorem Quiet.size {a b : World} (h : Quiet a b) : b.heap.size = a.heap.size := by rw [h.heap]
theorem Quiet.cell {a b : World} (h : Quiet a b) (p : Addr) : b.cell? p = a.cell? p := by
  unfold World.cell?
  rw [h.heap]
theorem Quiet.below {a b : World} (h : Quiet a b) (B : Nat) : Below B a b := by
  obtain ⟨m, rfl⟩ := h
  exact ⟨rfl, rfl, rfl, Nat.le_refl _, fun _ _ => rfl⟩
theorem Quiet.blk {a b : World} (h : Quiet a b) {g : Nat} {t : TypeId} {cs : Array Value} (hb : Blk a g t cs) : Blk b g t cs := by
  unfold Blk
  rw [h.heap]
  exact hb
theorem Quiet.reads {a b : World} (h : Quiet a b) {B size n : Nat} {A : Option Addr} {xs : List Value} (hr : Reads a B size A n xs) : Reads b B size A n xs := hr.keep fun p _ => h.cell p

/-- A row of the call's own at the head of block g: the whole block. -/
theorem own_blk {w : World} {base : Nat} {e : TypeId} {size g n cap : Nat} {xs : List Value} (h : w.ownsRow base e size (.slice (some ⟨g, 0, none⟩) n cap) n xs) :
    ∃ cur : Array Value, Blk w g e cur ∧ cur.size = cap * size ∧ cur.toList.take (n * size) = xs := by
  rcases h.2 with ⟨hbad, _⟩ | ⟨g', cp, cur, hv, _, hh, _, _, hcs, htk⟩
  · cases hbad
  injection hv with hv1 hv2 hv3
  injection hv1 with hv1
  injection hv1 with hv1
  subst hv1
  subst hv3
  exact ⟨cur, hh, hcs, htk⟩

theorem made_one (z : Value) (n : Nat) : (madeCells #[z] n).toList = List.replicate n z := by
  apply List.ext_getElem?
  intro j
  by_cases hj : j < n
  · simp [madeCells, hj, Nat.mod_one]
  · rw [List.getElem?_eq_none (by simp [madeCells]; omega), List.getElem?_eq_none (by simp; omega)]

/-- The unsigned number of an int, and its rest. -/
theorem u64_rest (a m : Int) (hm : 0 < m) : ∃ (u : Int) (n : Nat), IntKind.u64.wrap a = u ∧ 0 ≤ u ∧ u ≤ 18446744073709551615 ∧ u % m = n ∧ (n : Int) < m := by
  have h0 : 0 ≤ IntKind.u64.wrap a ∧ IntKind.u64.wrap a < 18446744073709551616 := by
    simp only [IntKind.wrap_u64]
    omega
  have h1 := Int.emod_nonneg (IntKind.u64.wrap a) (show m ≠ 0 by omega)
  have h2 := Int.emod_lt_of_pos (IntKind.u64.wrap a) hm
  exact ⟨_, (IntKind.u64.wrap a % m).toNat, rfl, h0.1, by omega, by omega, by omega⟩

/-- A slice of numbers of one kind. -/
def Nums (k : IntKind) (w : World) (B : Nat) (A : Option Addr) (n : Nat) (xs : List Int) : Prop := Reads w B 1 A n (xs.map (Value.int k))

section
variable {k : IntKind} {w w' : World} {B B' n : Nat} {A : Option Addr} {xs : List Int}
theorem Nums.len (h : Nums k w B A n xs) : xs.length = n := by have := h.1; simpa using this
theorem Nums.at_ {i : Nat} (h : Nums k w B A n xs) (hi : i < n) : ∃ ad, A = some ad ∧ ad.block < B ∧ w.cell? (ad.add i) = some (.int k (xs.getD i 0)) := by
  obtain ⟨ad, u, e, hb, hx, hc⟩ := Reads.at_ h hi
  have hl := h.len
  refine ⟨ad, e, hb, ?_⟩
  rw [hc, ← hx]
  simp [List.getD, List.getElem?_map, List.getElem?_eq_getElem (show i < xs.length by omega)]
theorem Nums.new (w : World) (t : TypeId) (m : Nat × Nat) (bs : List Int) : Nums k (w.alloc (.cells (bs.map (Value.int k)).toArray t m)) (w.heap.size + 1) (some ⟨w.heap.size, 0, none⟩) bs.length bs := by
  refine ⟨by simp, fun _ => ⟨_, rfl, by simp, fun j u hu => ?_⟩⟩
  rw [Addr.add_lit]
  simp only [Nat.zero_add]
  rw [cell_of_row _ w.heap.size j _ t m (heap_alloc_new w _), List.getElem?_toArray]
  exact hu
theorem Nums.nil (w : World) (B : Nat) : Nums k w B none 0 [] := Reads.none_
theorem Nums.below (h : Nums k w B A n xs) (hb : Below B w w') : Nums k w' B A n xs := Reads.below h hb
theorem Nums.quiet (h : Nums k w B A n xs) (hq : Quiet w w') : Nums k w' B A n xs := hq.reads h
theorem Nums.cut (h : Nums k w B A n xs) {i cap : Nat} (hi : i ≤ n) (hc : n ≤ cap) : Nums k w B (if cap = i then A else A.map (·.add i)) (n - i) (xs.drop i) := by
  have := Reads.cut (k := i) h hi hc
  simpa [Nums, List.map_drop] using this
theorem Nums.take (h : Nums k w B A n xs) {i : Nat} (hi : i ≤ n) : Nums k w B A i (xs.take i) := by
  have := Reads.take (k := i) h hi
  simpa [Nums, List.map_take] using this
end

/-- What a walk is told of a slice of integers that came in: it is nil; or it leads to a row of 'cap' cells, the numbers zs (the first 'len' are its elements). -/
def IsRow (k : IntKind) (w : World) (a : Option Addr) (len cap : Nat) (zs : List Int) : Prop :=
  (a = none ∧ len = 0 ∧ cap = 0 ∧ zs = []) ∨
  ∃ x, a = some x ∧ len ≤ cap ∧ cap ≤ maxLen ∧ zs.length = cap ∧ (∀ i, i < zs.length → w.cell? (x.add i) = some (.int k (zs.getD i 0))) ∧ ∀ n ∈ zs, (Lit.int k n).wf = true

section
variable {k : IntKind} {w : World} {a : Option Addr} {len cap : Nat} {zs : List Int}
theorem IsRow.nums (h : IsRow k w a len cap zs) : Nums k w w.heap.size a len (zs.take len) := by
  rcases h with ⟨rfl, rfl, rfl, rfl⟩ | ⟨x, rfl, hl, hm, hz, hc, hw⟩
  · exact Reads.none_
  · refine ⟨by simp; omega, fun hn => ⟨x, rfl, ?_, fun j u hu => ?_⟩⟩
    · have h0 := hc 0 (by omega)
      have := World.block_lt_of_cell? w _ h0
      rwa [block_of_add] at this
    · rw [List.getElem?_map] at hu
      obtain ⟨y, hy, rfl⟩ := Option.map_eq_some_iff.1 hu
      have hj := (List.getElem?_eq_some_iff.1 hy).1
      simp at hj
      rw [hc j (by omega)]
      rw [List.getElem?_take_of_lt (by omega)] at hy
      simp [List.getD, hy]
theorem IsRow.nil_ (h : IsRow k w a len cap zs) : a = none → len = 0 ∧ cap = 0 := by
  rcases h with ⟨rfl, rfl, rfl, rfl⟩ | ⟨x, rfl, _⟩
  · exact fun _ => ⟨rfl, rfl⟩
  · exact fun h => by cases h
theorem IsRow.cap_ (h : IsRow k w a len cap zs) : len ≤ cap := by
  rcases h with ⟨rfl, rfl, rfl, rfl⟩ | ⟨x, rfl, hl, _⟩
  · exact Nat.le_refl _
  · exact hl
theorem IsRow.len_ (h : IsRow k w a len cap zs) : len ≤ maxLen := by
  rcases h with ⟨rfl, rfl, rfl, rfl⟩ | ⟨x, rfl, hl, hm, _⟩
  · exact Nat.zero_le _
  · omega
theorem IsRow.wf_ (h : IsRow k w a len cap zs) : ∀ n ∈ zs.take len, (Lit.int k n).wf = true := by
  rcases h with ⟨rfl, rfl, rfl, rfl⟩ | ⟨x, rfl, _, _, _, _, hw⟩
  · simp
  · exact fun n hn => hw n (List.mem_of_mem_take hn)
end
end Go.Proofs.Ytdjkkpefljapcaa
