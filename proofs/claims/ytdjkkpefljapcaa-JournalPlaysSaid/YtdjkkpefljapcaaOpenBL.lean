/- A slice of slices of bytes that came in, opened to its cells. -/
import Derived.Test.YtdjkkpefljapcaaProg
import Derived.Test.YtdjkkpefljapcaaLib
import Derived.Deep.Slices
import Derived.Deep.Fields
import Derived.ChangeSame
import Derived.ProofKit
namespace Go.Proofs.Ytdjkkpefljapcaa
open Go.ChangeShapes Go.WideShapes Go.Deep Go.RowKit

/-- A slice of bytes: where it lies, its length and room, the bytes of its room. -/
structure Sl where
  A : Option Addr
  n : Nat
  c : Nat
  z : List Int
def Sl.nil : Sl := ⟨none, 0, 0, []⟩
def Sl.val (e : Sl) : Value := .slice e.A e.n e.c
def Sl.bytes (e : Sl) : List Int := e.z.take e.n
def Sl.ok (w : World) (e : Sl) : Prop := IsRow .u8 w e.A e.n e.c e.z
/-- What a walk is told of a slice of slices of bytes. -/
def ListRow (w : World) (a : Option Addr) (len cap : Nat) (l : List Sl) : Prop := Reads w w.heap.size 1 a len (l.map Sl.val) ∧ (∀ e ∈ l, e.ok w) ∧ len ≤ maxLen

theorem lists_of (n : Nat) (p : Nat → Sl → Prop) (h : ∀ i, i < n → ∃ e, p i e) : ∃ l : List Sl, l.length = n ∧ ∀ i, i < n → p i (l.getD i Sl.nil) := by
  induction n with
  | zero => exact ⟨[], rfl, fun i hi => by omega⟩
  | succ n ih =>
    obtain ⟨l, hl, hp⟩ := ih (fun i hi => h i (by omega))
    obtain ⟨e, he⟩ := h n (by omega)
    refine ⟨l ++ [e], by simp [hl], fun i hi => ?_⟩
    by_cases hin : i < n
    · have h1 := hp i hin
      rw [List.getD] at h1 ⊢
      rw [List.getElem?_append_left (by omega)]
      exact h1
    · obtain rfl : i = n := by omega
      rw [List.getD, List.getElem?_append_right (by omega)]
      simpa [hl] using he

theorem openBytesList {H : Type} {enc : TypeId × Value → H} {W : World} {a : Option Addr} {len cap : Nat} {d : DataW H} {p : List MemPlace} (h : DataW.Trod enc Try.prog W 0 (fun _ => true) true 58 (.slice a len cap) d p) : ∃ l, ListRow W a len cap l := by
  obtain ⟨fuel, hf⟩ := h
  rcases open_slice1 Try.underlying58 (by kernel_rfl) hf with ⟨hcs, _⟩ | ⟨x, l, c, m, n, V, D, Pl, hcs, _, hl, hm, hmm, _, hi⟩
  · simp [Value.cells] at hcs
    obtain ⟨rfl, rfl, rfl⟩ := hcs
    exact ⟨[], Reads.none_, (fun e he => by cases he), Nat.zero_le _⟩
  · simp [Value.cells] at hcs
    obtain ⟨rfl, rfl, rfl⟩ := hcs
    simp only [if_true] at hmm
    subst hmm
    have key : ∀ i, i < len → ∃ e : Sl, W.cell? (x.add i) = some e.val ∧ e.ok W := by
      intro i hil
      obtain ⟨c0, t0⟩ := hi i (by omega)
      rcases open_ints Try.underlying44 Try.underlying5 (by kernel_rfl) t0 with ⟨hcs, _⟩ | ⟨y, l2, c2, zs, hcs, _, hl2, hm2, hz, _, hcell, hwz⟩
      · simp at hcs
        refine ⟨Sl.nil, ?_, .inl ⟨rfl, rfl, rfl, rfl⟩⟩
        rw [c0, hcs]
        rfl
      · simp at hcs
        refine ⟨⟨some y, l2, c2, zs⟩, ?_, .inr ⟨y, rfl, hl2, hm2, by simpa using hz, hcell, hwz⟩⟩
        rw [c0, hcs]
        rfl
    obtain ⟨es, hes, hat⟩ := lists_of len _ key
    refine ⟨es, ⟨by simp [hes], fun hn => ⟨x, rfl, ?_, fun j u hu => ?_⟩⟩, fun e he => ?_, by omega⟩
    · have := World.block_lt_of_cell? W _ (hat 0 (by omega)).1
      rwa [block_of_add] at this
    · have hj := (List.getElem?_eq_some_iff.1 hu).1
      simp [hes] at hj
      rw [(hat j hj).1, ← hu]
      simp [List.getD, List.getElem?_eq_getElem (show j < es.length by omega)]
    · obtain ⟨i, hi', rfl⟩ := List.getElem_of_mem he
      have := (hat i (by omega)).2
      simpa [List.getD, hi'] using this
end Go.Proofs.Ytdjkkpefljapcaa
