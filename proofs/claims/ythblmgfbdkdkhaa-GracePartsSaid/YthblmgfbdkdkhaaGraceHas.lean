/- The contracts of grace.Has and of the document's one; what lombardlaw14.awake returns. -/
import Derived.Test.YthblmgfbdkdkhaaGrace
namespace Go.Proofs.Ythblmgfbdkdkhaa
open Go.RowKit

def hasB (owed : Int) (p : Int × Int) : Bool := decide (p.2 = 0 ∧ (owed ≤ 0 ∨ owed ≤ p.1))

theorem paidGo_err (first due : Int) (l : List Ev) : ∀ all, (paidGo first due all l).2 = 0 ∨ (paidGo first due all l).2 = 5 := by
  induction l with
  | nil => exact fun all => .inl rfl
  | cons e l ih =>
    intro all
    rw [paidGo]
    split
    · split
      · exact .inr rfl
      · exact ih _
    · exact ih _

set_option maxRecDepth 100000 in
theorem has_any (owed first due : Int) (A : Option Addr) (n cap B : Nat) (l : List Ev) (w : World) (hr : Evs w B A n l) (hB : B ≤ w.heap.size) (hn : n ≤ maxLen) :
    Calls Try.prog 21 #[.int .i64 owed, .int .i64 first, .int .i64 due, .slice A n cap] w fun e w' => e = .returned (.tuple #[.bool (hasB owed (paidGo first due 0 l)), .int .i64 (paidGo first due 0 l).2]) ∧ Below w.heap.size w w' := by
  have hc := paid_any first due A n cap B l w hr hB hn
  have herr := paidGo_err first due l 0
  clear hr
  generalize paidGo first due 0 l = p at *
  obtain ⟨p1, p2⟩ := p
  dsimp only at hc herr ⊢
  have HC := Lib.hid hc
  clear hc
  rcases herr with rfl | rfl
  · by_cases h1 : owed ≤ 0
    · have hb : hasB owed (p1, 0) = true := by simp [hasB, h1]
      have HB := Lib.hid hb
      clear hb
      go_enter Try.func21, Try.ntmps21
      go_wp2_with fail
      refine HC.out.mono ?_
      rintro e w1 ⟨rfl, hbl⟩
      go_wp2_with fail
      go_ret2
      rw [HB.out]
      exact ⟨rfl, hbl⟩
    by_cases h2 : owed ≤ p1
    · have hb : hasB owed (p1, 0) = true := by simp [hasB, h2]
      have HB := Lib.hid hb
      clear hb
      go_enter Try.func21, Try.ntmps21
      go_wp2_with fail
      refine HC.out.mono ?_
      rintro e w1 ⟨rfl, hbl⟩
      go_wp2_with fail
      go_ret2
      rw [HB.out]
      exact ⟨rfl, hbl⟩
    · have hd1 : decide (owed ≤ 0) = false := by simp; omega
      have hd2 : decide (owed ≤ p1) = false := by simp; omega
      have hb : hasB owed (p1, 0) = false := by simp [hasB]; omega
      have HB := Lib.hid hb
      clear hb
      go_enter Try.func21, Try.ntmps21
      go_wp2_with fail
      refine HC.out.mono ?_
      rintro e w1 ⟨rfl, hbl⟩
      go_wp2_with fail
      go_ret2
      rw [HB.out]
      exact ⟨rfl, hbl⟩
  · have hb : hasB owed (p1, 5) = false := by simp [hasB]
    have HB := Lib.hid hb
    clear hb
    go_enter Try.func21, Try.ntmps21
    go_wp2_with fail
    refine HC.out.mono ?_
    rintro e w1 ⟨rfl, hbl⟩
    go_wp2_with fail
    go_ret2
    rw [HB.out]
    exact ⟨rfl, hbl⟩

set_option maxRecDepth 100000 in
theorem refHas_any (owed first due : Int) (A : Option Addr) (n cap B : Nat) (l : List Ev) (w : World) (hr : Evs w B A n l) (hB : B ≤ w.heap.size) (hn : n ≤ maxLen) :
    Calls Try.prog 22 #[.int .i64 owed, .int .i64 first, .int .i64 due, .slice A n cap] w fun e w' => e = .returned (.tuple #[.bool (hasB owed (paidGo first due 0 l)), .int .i64 (paidGo first due 0 l).2]) ∧ Below w.heap.size w w' := by
  have hc := refPaid_any first due A n cap B l w hr hB hn
  have herr := paidGo_err first due l 0
  clear hr
  generalize paidGo first due 0 l = p at *
  obtain ⟨p1, p2⟩ := p
  dsimp only at hc herr ⊢
  have HC := Lib.hid hc
  clear hc
  rcases herr with rfl | rfl
  · by_cases h1 : owed ≤ 0
    · have hb : hasB owed (p1, 0) = true := by simp [hasB, h1]
      have HB := Lib.hid hb
      clear hb
      go_enter Try.func22, Try.ntmps22
      go_wp2_with fail
      refine HC.out.mono ?_
      rintro e w1 ⟨rfl, hbl⟩
      go_wp2_with fail
      go_ret2
      rw [HB.out]
      exact ⟨rfl, hbl⟩
    by_cases h2 : owed ≤ p1
    · have hb : hasB owed (p1, 0) = true := by simp [hasB, h2]
      have HB := Lib.hid hb
      clear hb
      go_enter Try.func22, Try.ntmps22
      go_wp2_with fail
      refine HC.out.mono ?_
      rintro e w1 ⟨rfl, hbl⟩
      go_wp2_with fail
      go_ret2
      rw [HB.out]
      exact ⟨rfl, hbl⟩
    · have hd1 : decide (owed ≤ 0) = false := by simp; omega
      have hd2 : decide (owed ≤ p1) = false := by simp; omega
      have hb : hasB owed (p1, 0) = false := by simp [hasB]; omega
      have HB := Lib.hid hb
      clear hb
      go_enter Try.func22, Try.ntmps22
      go_wp2_with fail
      refine HC.out.mono ?_
      rintro e w1 ⟨rfl, hbl⟩
      go_wp2_with fail
      go_ret2
      rw [HB.out]
      exact ⟨rfl, hbl⟩
  · have hb : hasB owed (p1, 5) = false := by simp [hasB]
    have HB := Lib.hid hb
    clear hb
    go_enter Try.func22, Try.ntmps22
    go_wp2_with fail
    refine HC.out.mono ?_
    rintro e w1 ⟨rfl, hbl⟩
    go_wp2_with fail
    go_ret2
    rw [HB.out]
    exact ⟨rfl, hbl⟩

/-- One event in a new block. -/
theorem Evs.new1 (w : World) (t : TypeId) (m : Nat × Nat) (e : Ev) : Evs (w.alloc (.cells #[.int .i64 e.kind, .int .i64 e.day, .int .i64 e.tr, .int .i64 e.amount, .int .i64 e.ref] t m)) (w.heap.size + 1) (some ⟨w.heap.size, 0, none⟩) 1 [e] := by
  refine ⟨by rw [evCells_length]; rfl, fun _ => ⟨_, rfl, by simp, fun j u hu => ?_⟩⟩
  rw [Addr.add_lit]
  simp only [Nat.zero_add]
  rw [cell_of_row _ w.heap.size j _ t m (heap_alloc_new w _)]
  have h : evCells [e] = [.int .i64 e.kind, .int .i64 e.day, .int .i64 e.tr, .int .i64 e.amount, .int .i64 e.ref] := rfl
  rw [h] at hu
  rw [← hu, List.getElem?_toArray]

set_option maxRecDepth 100000 in
theorem awake14 (w : World) : Calls Try.prog 17 #[] w fun e w' => e = .returned (.bool true) ∧ Below w.heap.size w w' := by
  have e1 : hasB 5 (paidGo 1 3 0 [⟨2, 3, 0, 5, 0⟩]) = true := by decide
  have e2 : hasB 5 (paidGo 1 2 0 [⟨2, 3, 0, 5, 0⟩]) = false := by decide
  have e3 : (paidGo 1 3 0 [⟨2, 3, 0, 5, 0⟩]).2 = 0 := by decide
  have e4 : (paidGo 1 2 0 [⟨2, 3, 0, 5, 0⟩]).2 = 0 := by decide
  have hm : (1 : Nat) ≤ maxLen := by unfold maxLen; omega
  go_enter Try.func17, Try.ntmps17
  go_wp2_with fail
  refine (has_any 5 1 3 _ 1 _ _ [⟨2, 3, 0, 5, 0⟩] _ (Evs.new1 _ _ _ ⟨2, 3, 0, 5, 0⟩) (by simp) hm).mono ?_
  rintro e w1 ⟨rfl, hb1⟩
  have hb1' := ((Below.refl w.heap.size w).alloc (Nat.le_refl _) _).trans (hb1.mono (by simp))
  clear hb1
  go_wp2_with fail
  refine (has_any 5 1 2 _ 1 _ _ [⟨2, 3, 0, 5, 0⟩] _ (Evs.new1 _ _ _ ⟨2, 3, 0, 5, 0⟩) (by simp) hm).mono ?_
  rintro e w2 ⟨rfl, hb2⟩
  have hb2' := (hb1'.alloc hb1'.size _).trans (hb2.mono (by simp; have := hb1'.size; omega))
  clear hb2 hb1'
  go_wp2_with fail
  go_ret
  exact ⟨rfl, hb2'⟩
end Go.Proofs.Ythblmgfbdkdkhaa
