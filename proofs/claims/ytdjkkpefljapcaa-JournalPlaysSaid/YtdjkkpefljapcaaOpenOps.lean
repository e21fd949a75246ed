/- A slice of Ops that came in, opened to its cells. -/
import Derived.Test.YtdjkkpefljapcaaOpenBL
namespace Go.Proofs.Ytdjkkpefljapcaa
open Go.ChangeShapes Go.WideShapes Go.Deep Go.RowKit
set_option linter.unusedVariables false
set_option linter.unusedSimpArgs false

section
variable {H : Type} {enc : TypeId × Value → H} {P : Program} {w : World} {base : Nat} {spare : Nat → Bool} {held : Bool}
theorem open_slice_fields {t e : TypeId} {fs : Array Field} {fuel : Nat} {cs : List Value} {x : DataW H × List MemPlace} (ht : P.underlying t = some (.slice e)) (he : P.underlying e = some (.struct fs))
    (hone : oneCellFields P fs = true) (hC : P.cellsOf e = fs.size) (h : DataW.trod enc P w base spare held fuel t cs = some x) :
    (cs = [.slice none 0 0] ∧ x = (.nil, [])) ∨
    ∃ (a : Addr) (len cap m : Nat) (D : Nat → DataW H) (Pl : Nat → List MemPlace), cs = [.slice (some a) len cap] ∧ base ≤ a.block ∧ len ≤ cap ∧ cap ≤ maxLen ∧ m = (if spare a.block then cap else len) ∧
      x = (.slice ((List.range len).map D) ((List.range (m - len)).map fun j => D (len + j)), MemPlace.row a (m * fs.size) ++ (List.range m).flatMap Pl) ∧
      ∀ i, i < m → ∃ (ys : List (DataW H × List MemPlace)) (n : Nat), D i = .agg (ys.map (·.1)) ∧ Pl i = ys.flatMap (·.2) ∧ ys.length = fs.size ∧
        ∀ (j : Nat) (f : Field), fs[j]? = some f → ∃ (v : Value) (y : DataW H × List MemPlace), w.cell? (a.add (i * fs.size + j)) = some v ∧ ys[j]? = some y ∧ DataW.trod enc P w base spare held n f.type [v] = some y := by
  rcases open_slice ht h with h0 | ⟨a, len, cap, m, n, D, Pl, hcs, hb, hl, hm, hmm, hx, hi⟩
  · exact .inl h0
  · refine .inr ⟨a, len, cap, m, D, Pl, hcs, hb, hl, hm, hmm, by rw [hC] at hx; exact hx, fun i him => ?_⟩
    obtain ⟨cs', hc, ht'⟩ := hi i him
    rw [hC] at hc
    obtain ⟨ys, n', hn', hy, hlen, hyl, hf⟩ := DataW.trod_struct he ht'
    obtain ⟨_, hcl, hat⟩ := World.cells?_some hc
    simp only [Prod.mk.injEq] at hy
    refine ⟨ys, n', hy.1, hy.2, hyl, fun j f hj => ?_⟩
    obtain ⟨ho, hk⟩ := hone_of hone j f hj
    have hjl : j < fs.size := (Array.getElem?_eq_some_iff.1 hj).1
    have hcell := hat j hjl
    have hv : cs'[j]? = some (cs'[j]'(by omega)) := List.getElem?_eq_getElem (by omega)
    have h1 := hf j f hj
    rw [ho, hk] at h1
    have hone' : (cs'.drop j).take 1 = [cs'[j]'(by omega)] := by
      rw [List.drop_eq_getElem_cons (by omega)]
      rfl
    rw [hone'] at h1
    have hys : ys[j]? = some (ys[j]'(by omega)) := List.getElem?_eq_getElem (by omega)
    refine ⟨_, _, ?_, hys, h1.trans hys⟩
    rw [← Go.Deep.add_add, hcell, hv]
end

/-- One Op: kind, number, bytes, what is kept. -/
structure OpV where
  k : Int
  n : Int
  b : Sl
  keep : Sl
def OpV.zero : OpV := ⟨0, 0, Sl.nil, Sl.nil⟩
def OpV.cells (e : OpV) : List Value := [.int .i64 e.k, .int .i64 e.n, e.b.val, e.keep.val]
def OpV.ok (w : World) (e : OpV) : Prop := (Lit.int .i64 e.k).wf = true ∧ (Lit.int .i64 e.n).wf = true ∧ IsRow .u8 w e.b.A e.b.n e.b.c e.b.z ∧ IsRow .i64 w e.keep.A e.keep.n e.keep.c e.keep.z
/-- What a walk is told of a slice of Ops. -/
def OpRow (w : World) (a : Option Addr) (len cap : Nat) (l : List OpV) : Prop :=
  l.length = len ∧ len ≤ maxLen ∧ (∀ e ∈ l, e.ok w) ∧ (0 < len → ∃ b o, a = some ⟨b, o, none⟩ ∧ b < w.heap.size ∧ ∀ i, i < len → ∀ j, j < 4 → w.cell? ⟨b, o + (i * 4 + j), none⟩ = (l.getD i OpV.zero).cells[j]?)

theorem opsList_of (n : Nat) (p : Nat → OpV → Prop) (h : ∀ i, i < n → ∃ e, p i e) : ∃ l : List OpV, l.length = n ∧ ∀ i, i < n → p i (l.getD i OpV.zero) := by
  induction n with
  | zero => exact ⟨[], rfl, fun i hi => by omega⟩
  | succ n ih =>
    obtain ⟨l, hl, hp⟩ := ih (fun i hi => h i (by omega))
    obtain ⟨e, he⟩ := h n (by omega)
    refine ⟨l ++ [e], by simp [hl], fun i hi => ?_⟩
    by_cases hin : i < n
    · have h1 := hp i hin
      rw [List.getD] at h1 ⊢
      rw [List.getElem?_append_left (by omega)]
      exact h1
    · obtain rfl : i = n := by omega
      rw [List.getD, List.getElem?_append_right (by omega)]
      simpa [hl] using he

theorem openSl {H : Type} {enc : TypeId × Value → H} {W : World} {k : IntKind} {t e fuel : Nat} {v : Value} {y : DataW H × List MemPlace} (ht : Try.prog.underlying t = some (.slice e)) (he : Try.prog.underlying e = some (.int k)) (hc : Try.prog.cellsOf e = 1)
    (h : DataW.trod enc Try.prog W 0 (fun _ => true) true fuel t [v] = some y) : ∃ s : Sl, v = s.val ∧ IsRow k W s.A s.n s.c s.z := by
  rcases open_ints ht he hc h with ⟨hcs, _⟩ | ⟨y, l2, c2, zs, hcs, _, hl2, hm2, hz, _, hcell, hwz⟩
  · simp at hcs
    exact ⟨Sl.nil, hcs, .inl ⟨rfl, rfl, rfl, rfl⟩⟩
  · simp at hcs
    exact ⟨⟨some y, l2, c2, zs⟩, hcs, .inr ⟨y, rfl, hl2, hm2, by simpa using hz, hcell, hwz⟩⟩

theorem openOps {H : Type} {enc : TypeId × Value → H} {W : World} {a : Option Addr} {len cap : Nat} {d : DataW H} {p : List MemPlace} (h : DataW.Trod enc Try.prog W 0 (fun _ => true) true 64 (.slice a len cap) d p) : ∃ l, OpRow W a len cap l := by
  obtain ⟨fuel, hf⟩ := h
  rcases open_slice_fields Try.underlying64 Try.underlying66 (by kernel_rfl) (by kernel_rfl) hf with ⟨hcs, _⟩ | ⟨x, l, c, m, D, Pl, hcs, _, hl, hm, hmm, _, hi⟩
  · simp [Value.cells] at hcs
    obtain ⟨rfl, rfl, rfl⟩ := hcs
    exact ⟨[], rfl, Nat.zero_le _, (fun e he => by cases he), fun h => absurd h (by omega)⟩
  · simp [Value.cells] at hcs
    obtain ⟨rfl, rfl, rfl⟩ := hcs
    simp only [if_true] at hmm
    subst hmm
    have key : ∀ i, i < len → ∃ e : OpV, (∀ j, j < 4 → W.cell? (x.add (i * 4 + j)) = e.cells[j]?) ∧ e.ok W := by
      intro i hil
      obtain ⟨ys, n, _, _, _, hf⟩ := hi i (by omega)
      obtain ⟨v0, y0, c0, _, t0⟩ := hf 0 _ rfl
      obtain ⟨v1, y1, c1, _, t1⟩ := hf 1 _ rfl
      obtain ⟨v2, y2, c2, _, t2⟩ := hf 2 _ rfl
      obtain ⟨v3, y3, c3, _, t3⟩ := hf 3 _ rfl
      obtain ⟨n0, e0, _, w0⟩ := DataW.trod_int Try.underlying3 t0
      obtain ⟨n1, e1, _, w1⟩ := DataW.trod_int Try.underlying3 t1
      obtain ⟨s2, e2, r2⟩ := openSl Try.underlying44 Try.underlying5 (by kernel_rfl) t2
      obtain ⟨s3, e3, r3⟩ := openSl Try.underlying34 Try.underlying3 (by kernel_rfl) t3
      simp only [List.cons.injEq, and_true] at e0 e1
      subst e0 e1 e2 e3
      refine ⟨⟨n0, n1, s2, s3⟩, fun j hj => ?_, ?_⟩
      · have : j = 0 ∨ j = 1 ∨ j = 2 ∨ j = 3 := by omega
        rcases this with rfl | rfl | rfl | rfl
        · exact c0
        · exact c1
        · exact c2
        · exact c3
      · exact ⟨w0, w1, r2, r3⟩
    obtain ⟨es, hes, hat⟩ := opsList_of len _ key
    refine ⟨es, hes, by omega, fun e he => ?_, fun h0 => ?_⟩
    · obtain ⟨i, hi', rfl⟩ := List.getElem_of_mem he
      have := (hat i (by omega)).2
      simpa [List.getD, hi'] using this
    · have h1 := (hat 0 h0).1 0 (by omega)
      obtain ⟨b, o, sp⟩ := x
      have hc : W.cell? ((⟨b, o, sp⟩ : Addr).add (0 * 4 + 0)) = some (.int .i64 (es.getD 0 OpV.zero).k) := h1
      have hsp : sp = none := by simpa [Addr.add] using World.cell?_spot hc
      subst hsp
      have hlt := World.block_lt_of_cell? W _ hc
      rw [block_of_add] at hlt
      exact ⟨b, o, rfl, hlt, fun i hi j hj => by have := (hat i hi).1 j hj; rwa [Addr.add_lit] at this⟩
end Go.Proofs.Ytdjkkpefljapcaa
