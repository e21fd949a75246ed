/- LeafKeeps in plain Lean: eight leaves, those that the list names dry, the others wet; what is kept of them. And a slice of bools that came in. -/
import Derived.Test.YtdjkkpefljapcaaLeafI
import Derived.Deep.Slices
import Derived.Deep.Fields
import Derived.ProofKit
namespace Go.Proofs.Ytdjkkpefljapcaa
open Go.ChangeShapes Go.WideShapes Go.Deep Go.RowKit
set_option linter.unusedVariables false
set_option linter.unusedSimpArgs false

/-! ### bools that came in -/
def Bools (w : World) (B : Nat) (A : Option Addr) (n : Nat) (bs : List Bool) : Prop := Reads w B 1 A n (bs.map Value.bool)
theorem Bools.len {w : World} {B n : Nat} {A : Option Addr} {bs : List Bool} (h : Bools w B A n bs) : bs.length = n := by have := h.1; simpa using this
theorem Bools.at_ {w : World} {B n : Nat} {A : Option Addr} {bs : List Bool} (h : Bools w B A n bs) {i : Nat} (hi : i < n) : ∃ ad, A = some ad ∧ ad.block < B ∧ w.cell? (ad.add i) = some (.bool (bs.getD i false)) := by
  obtain ⟨ad, u, e, hb, hx, hc⟩ := Reads.at_ h hi
  have hl := h.len
  refine ⟨ad, e, hb, ?_⟩
  rw [hc, ← hx]
  simp [List.getD, List.getElem?_map, List.getElem?_eq_getElem (show i < bs.length by omega)]
theorem Bools.below {w w' : World} {B n : Nat} {A : Option Addr} {bs : List Bool} (h : Bools w B A n bs) (hb : Below B w w') : Bools w' B A n bs := Reads.below h hb
def BoolRow (w : World) (a : Option Addr) (len cap : Nat) (bs : List Bool) : Prop := Bools w w.heap.size a len bs ∧ len ≤ maxLen

theorem listb_of (n : Nat) (p : Nat → Bool → Prop) (h : ∀ i, i < n → ∃ e, p i e) : ∃ l : List Bool, l.length = n ∧ ∀ i, i < n → p i (l.getD i false) := by
  induction n with
  | zero => exact ⟨[], rfl, fun i hi => by omega⟩
  | succ n ih =>
    obtain ⟨l, hl, hp⟩ := ih (fun i hi => h i (by omega))
    obtain ⟨e, he⟩ := h n (by omega)
    refine ⟨l ++ [e], by simp [hl], fun i hi => ?_⟩
    by_cases hin : i < n
    · have h1 := hp i hin
      rw [List.getD] at h1 ⊢
      rw [List.getElem?_append_left (by omega)]
      exact h1
    · obtain rfl : i = n := by omega
      rw [List.getD, List.getElem?_append_right (by omega)]
      simpa [hl] using he

theorem openBools {H : Type} {enc : TypeId × Value → H} {W : World} {a : Option Addr} {len cap : Nat} {d : DataW H} {p : List MemPlace} (h : DataW.Trod enc Try.prog W 0 (fun _ => true) true 33 (.slice a len cap) d p) : ∃ l, BoolRow W a len cap l := by
  obtain ⟨fuel, hf⟩ := h
  rcases open_slice1 Try.underlying33 (by kernel_rfl) hf with ⟨hcs, _⟩ | ⟨x, l, c, m, n, V, D, Pl, hcs, _, hl, hm, hmm, _, hi⟩
  · simp [Value.cells] at hcs
    obtain ⟨rfl, rfl, rfl⟩ := hcs
    exact ⟨[], Reads.none_, Nat.zero_le _⟩
  · simp [Value.cells] at hcs
    obtain ⟨rfl, rfl, rfl⟩ := hcs
    simp only [if_true] at hmm
    subst hmm
    have key : ∀ i, i < len → ∃ e : Bool, W.cell? (x.add i) = some (.bool e) := by
      intro i hil
      obtain ⟨c0, t0⟩ := hi i (by omega)
      obtain ⟨b, e0, _⟩ := DataW.trod_bool Try.underlying4 t0
      simp only [List.cons.injEq, and_true] at e0
      exact ⟨b, by rw [c0, e0]⟩
    obtain ⟨es, hes, hat⟩ := listb_of len _ key
    refine ⟨es, ⟨by simp [hes], fun hn => ⟨x, rfl, ?_, fun j u hu => ?_⟩⟩, by omega⟩
    · have := World.block_lt_of_cell? W _ (hat 0 (by omega))
      rwa [block_of_add] at this
    · have hj := (List.getElem?_eq_some_iff.1 hu).1
      simp [hes] at hj
      rw [hat j hj, ← hu]
      simp [List.getD, List.getElem?_eq_getElem (show j < es.length by omega)]

/-! ### eight leaves -/
def fullB : List Int := (List.range 48).map fun i => ((i : Nat) : Int) + 1
theorem fullB_len : fullB.length = 48 := by simp [fullB]
theorem fullB_bytes : isBytes fullB := by
  intro b hb
  obtain ⟨i, hi, rfl⟩ := List.mem_map.1 hb
  have := List.mem_range.1 hi
  omega
def fillL (k : Nat) : List Int := ((List.range k).map fun i => ((i : Nat) : Int) + 1) ++ List.replicate (48 - k) 0
theorem fillL_zero : fillL 0 = zb := rfl
theorem fillL_all : fillL 48 = fullB := by simp [fillL, fullB]
theorem fillL_len {k : Nat} (h : k ≤ 48) : (fillL k).length = 48 := by simp [fillL]; omega
theorem fillL_set {k : Nat} (h : k < 48) : (fillL k).set k ((k : Int) + 1) = fillL (k + 1) := by
  unfold fillL
  rw [List.set_append_right _ _ (by simp), show 48 - k = (48 - (k + 1)) + 1 from by omega, List.replicate_succ, List.range_succ, List.map_append]
  simp

def st (f : Nat → Lf) : Pd := ⟨(List.range 8).map f, 0, 0, false⟩
theorem st_len (f : Nat → Lf) : (st f).l.length = 8 := by simp [st]
theorem st_at (f : Nat → Lf) (n : Nat) (h : n < 8) : (st f).at n = f n := by simp [st, Pd.at, List.getD, h]
theorem st_ext {f g : Nat → Lf} (h : ∀ t, t < 8 → f t = g t) : st f = st g := by
  unfold st
  congr 1
  apply List.map_congr_left
  intro t ht
  exact h t (List.mem_range.1 ht)
theorem st_put (f : Nat → Lf) (n : Nat) (x : Lf) (h : n < 8) : ((st f).put n x).stroke = st (fun t => if t = n then x else f t) := by
  have e : ((st f).put n x).snag = 0 := rfl
  unfold Pd.stroke
  rw [if_pos e]
  unfold st Pd.put
  congr 1
  apply List.ext_getElem?
  intro j
  rw [List.getElem?_set]
  by_cases hj : n = j
  · subst hj
    simp [h]
  · by_cases h8 : j < 8
    · have hj' : ¬ j = n := fun e => hj e.symm
      simp [hj, h8, hj']
    · simp [hj, h8]
theorem st_new : Pd.new 8 = st (fun _ => Lf.zero) := rfl
theorem eachL_map (h : Lf → Lf) (l : List Lf) : ∀ i, eachL (fun _ x => h x) i l = l.map (fun x => if x.is = 1 then h x else x) := by
  induction l with
  | nil => intro i; rfl
  | cons x l ih => intro i; simp only [eachL, List.map_cons]; split <;> simp [ih]
theorem eachL_none (f : Nat → Lf → Lf) (l : List Lf) (h : ∀ x ∈ l, x.is ≠ 1) : ∀ i, eachL f i l = l := by
  induction l with
  | nil => intro i; rfl
  | cons x l ih => intro i; simp only [eachL]; rw [if_neg (h x (by simp)), ih (fun y hy => h y (by simp [hy]))]
theorem st_dry (f : Nat → Lf) : (st f).stroke.dry = st (fun t => if (f t).is = 1 then ⟨2, (f t).b⟩ else f t) := by
  have e : (st f).snag = 0 := rfl
  unfold Pd.stroke
  rw [if_pos e]
  unfold st Pd.dry
  dsimp only
  rw [eachL_map (fun x => ⟨2, x.b⟩), List.map_map]
  rfl
theorem eachL_getD (f : Nat → Lf → Lf) (l : List Lf) (n : Nat) (hn : n < l.length) :
    (eachL f 0 l).getD n Lf.zero = if (l.getD n Lf.zero).is = 1 then f (wetN (l.take n)) (l.getD n Lf.zero) else l.getD n Lf.zero := by
  have e : eachL f 0 l = eachL f 0 (l.take n) ++ eachL f (0 + wetN (l.take n)) (l.drop n) := by rw [← eachL_append, List.take_append_drop]
  have el : (eachL f 0 (l.take n)).length = n := by rw [eachL_length]; simp; omega
  have hx : l.getD n Lf.zero = l[n] := by simp [List.getD, List.getElem?_eq_getElem hn]
  simp only [hx]
  rw [e, List.drop_eq_getElem_cons hn, List.getD, List.getElem?_append_right (by omega), el, Nat.sub_self]
  simp only [eachL, Nat.zero_add]
  by_cases h1 : l[n].is = 1
  · simp [h1]
  · simp [h1]

/-! the states -/
def wetF : Lf := ⟨1, fullB⟩
def dryF : Lf := ⟨2, fullB⟩
def f2 (W : Nat → Bool) (j : Int) (t : Nat) : Lf := if j < (t : Int) ∧ W t = true then wetF else Lf.zero
def f3 (W : Nat → Bool) (j : Int) (t : Nat) : Lf := if W t = true then dryF else if j < (t : Int) then wetF else Lf.zero
theorem f2_start (W : Nat → Bool) : st (fun _ => Lf.zero) = st (f2 W 7) := st_ext fun t ht => by unfold f2; rw [if_neg (by omega)]
theorem f2_yes (W : Nat → Bool) (n : Nat) (h : n < 8) (hw : W n = true) : ((st (f2 W n)).put n wetF).stroke = st (f2 W ((n : Int) - 1)) := by
  rw [st_put _ _ _ h]
  refine st_ext fun t ht => ?_
  unfold f2
  by_cases e : t = n
  · subst e; rw [if_pos rfl, if_pos ⟨by omega, hw⟩]
  · rw [if_neg e]
    by_cases h1 : (n : Int) < t ∧ W t = true
    · rw [if_pos h1, if_pos ⟨by omega, h1.2⟩]
    · rw [if_neg h1, if_neg (fun h2 => h1 ⟨by omega, h2.2⟩)]
theorem f2_no (W : Nat → Bool) (n : Nat) (hw : W n = false) : st (f2 W n) = st (f2 W ((n : Int) - 1)) := by
  refine st_ext fun t ht => ?_
  unfold f2
  by_cases h1 : (n : Int) < t ∧ W t = true
  · rw [if_pos h1, if_pos ⟨by omega, h1.2⟩]
  · rw [if_neg h1, if_neg (fun h2 => h1 ⟨by
      have : t ≠ n := fun e => by rw [e, hw] at h2; exact absurd h2.2 (by simp)
      omega, h2.2⟩)]
theorem f2_at (W : Nat → Bool) (n : Nat) (h : n < 8) : ((st (f2 W n)).at n).is = 0 := by
  rw [st_at _ _ h]
  unfold f2
  rw [if_neg (by omega)]
  rfl
theorem f3_start (W : Nat → Bool) : (st (f2 W (-1))).stroke.dry = st (f3 W 7) := by
  rw [st_dry]
  refine st_ext fun t ht => ?_
  unfold f2 f3
  cases hw : W t with
  | true =>
    have h1 : (-1 : Int) < t := by omega
    simp [h1, wetF, dryF]
  | false =>
    have h1 : ¬ (7 : Int) < t := by omega
    simp [h1, Lf.zero]
theorem f3_yes (W : Nat → Bool) (n : Nat) (h : n < 8) (hw : W n = false) : ((st (f3 W n)).put n wetF).stroke = st (f3 W ((n : Int) - 1)) := by
  rw [st_put _ _ _ h]
  refine st_ext fun t ht => ?_
  unfold f3
  by_cases e : t = n
  · subst e; rw [if_pos rfl, if_neg (by simp [hw]), if_pos (by omega)]
  · rw [if_neg e]
    cases hwt : W t with
    | true => simp
    | false =>
      simp only [Bool.false_eq_true, if_false]
      by_cases h1 : (n : Int) < t
      · rw [if_pos h1, if_pos (by omega)]
      · rw [if_neg h1, if_neg (by omega)]
theorem f3_no (W : Nat → Bool) (n : Nat) (hw : W n = true) : st (f3 W n) = st (f3 W ((n : Int) - 1)) := by
  refine st_ext fun t ht => ?_
  unfold f3
  cases hwt : W t with
  | true => simp
  | false =>
    simp only [Bool.false_eq_true, if_false]
    have : t ≠ n := fun e => by rw [e, hw] at hwt; cases hwt
    by_cases h1 : (n : Int) < t
    · rw [if_pos h1, if_pos (by omega)]
    · rw [if_neg h1, if_neg (by omega)]
theorem f3_at (W : Nat → Bool) (n : Nat) (h : n < 8) (hw : W n = false) : ((st (f3 W n)).at n).is = 0 := by
  rw [st_at _ _ h]
  unfold f3
  rw [if_neg (by simp [hw]), if_neg (by omega)]
  rfl
theorem wetN_set (l : List Lf) (n : Nat) (x : Lf) (hn : n < l.length) (h0 : (l.getD n Lf.zero).is ≠ 1) (h1 : x.is = 1) : wetN (l.set n x) = wetN l + 1 := by
  induction l generalizing n with
  | nil => simp at hn
  | cons y l ih =>
    cases n with
    | zero =>
      simp at h0
      simp only [List.set_cons_zero, wetN, h1, if_true]
      rw [if_neg h0]
    | succ n =>
      simp only [List.set_cons_succ, wetN]
      rw [ih n (by simpa using hn) (by simpa using h0)]
      split <;> omega
theorem f3_wet (W : Nat → Bool) (n : Nat) (h : n < 8) (hw : W n = false) : wetN (st (f3 W ((n : Int) - 1))).l = wetN (st (f3 W n)).l + 1 := by
  rw [← f3_yes W n h hw, stroke_l]
  exact wetN_set _ n wetF (by rw [st_len]; exact h) (by have := f3_at W n h hw; unfold Pd.at at this; rw [this]; omega) rfl
theorem f3_wet0 (W : Nat → Bool) : wetN (st (f3 W 7)).l = 0 := by
  have : ∀ l : List Nat, (∀ t ∈ l, t < 8) → wetN (l.map (f3 W 7)) = 0 := by
    intro l
    induction l with
    | nil => intro _; rfl
    | cons t l ih =>
      intro h
      simp only [List.map_cons, wetN]
      rw [ih (fun s hs => h s (by simp [hs])), if_neg]
      unfold f3
      have := h t (by simp)
      split
      · simp [dryF]
      · rw [if_neg (by omega)]; simp [Lf.zero]
  exact this _ (fun t ht => List.mem_range.1 ht)

/-- All leaves written. -/
def fin (W : Nat → Bool) : List Lf := (st (f3 W (-1))).l
theorem fin_len (W : Nat → Bool) : (fin W).length = 8 := st_len _
theorem fin_at (W : Nat → Bool) (n : Nat) (h : n < 8) : (fin W).getD n Lf.zero = if W n = true then dryF else wetF := by
  have := st_at (f3 W (-1)) n h
  unfold Pd.at at this
  unfold fin
  rw [this]
  unfold f3
  split
  · rfl
  · rw [if_pos (by omega)]
def dropped (W : Nat → Bool) (keep : List Int) : Pd := ((st (f3 W (-1))).drop keep).mend
theorem dropped_l (W : Nat → Bool) (keep : List Int) : (dropped W keep).l = eachL (fun i x => keptL x (keepAt keep i)) 0 (fin W) := by
  show eachL (fun _ _ => Lf.zero) 0 (eachL (fun i x => keptL x (keepAt keep i)) 0 (fin W)) = _
  apply eachL_none
  have : ∀ (l : List Lf) i, ∀ x ∈ eachL (fun i x => keptL x (keepAt keep i)) i l, x.is ≠ 1 := by
    intro l
    induction l with
    | nil => intro i x hx; simp [eachL] at hx
    | cons y l ih =>
      intro i x hx
      simp only [eachL] at hx
      split at hx
      · rcases List.mem_cons.1 hx with rfl | hx
        · unfold keptL; split <;> simp [Lf.zero]
        · exact ih _ x hx
      · rename_i hy
        rcases List.mem_cons.1 hx with rfl | hx
        · exact hy
        · exact ih _ x hx
  exact this _ _
theorem dropped_dry (W : Nat → Bool) (keep : List Int) (n : Nat) (h : n < 8) (hw : W n = true) : (dropped W keep).tell n = (fullB, true) ∧ wetN ((fin W).take (n + 1)) = wetN ((fin W).take n) := by
  have hf := fin_at W n h
  rw [if_pos hw] at hf
  constructor
  · unfold Pd.tell Pd.at
    rw [dropped_l, eachL_getD _ _ _ (by rw [fin_len]; exact h), hf]
    rfl
  · exact (doneL_dry (fun _ x => x) (fin W) n (by rw [fin_len]; exact h) (by rw [hf]; simp [dryF])).2
theorem dropped_wet (W : Nat → Bool) (keep : List Int) (n : Nat) (h : n < 8) (hw : W n = false) : (dropped W keep).tell n = (if keepAt keep (wetN ((fin W).take n)) < 1 then (zb, false) else (fullB.take (keepAt keep (wetN ((fin W).take n))).toNat ++ List.replicate (48 - (keepAt keep (wetN ((fin W).take n))).toNat) 255, true)) ∧ wetN ((fin W).take (n + 1)) = wetN ((fin W).take n) + 1 := by
  have hf := fin_at W n h
  rw [if_neg (by simp [hw])] at hf
  constructor
  · unfold Pd.tell Pd.at
    rw [dropped_l, eachL_getD _ _ _ (by rw [fin_len]; exact h), hf, if_pos (show wetF.is = 1 from rfl)]
    unfold keptL
    by_cases hk : keepAt keep (wetN ((fin W).take n)) < 1
    · rw [if_pos hk, if_pos hk]; rfl
    · rw [if_neg hk, if_neg hk]; rfl
  · exact (doneL_wet (fun _ x => x) (fin W) n (by rw [fin_len]; exact h) (by rw [hf]; rfl)).2
end Go.Proofs.Ytdjkkpefljapcaa
