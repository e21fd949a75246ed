/- The contracts of grace.Paid, grace.Has and of the document's two: each returns what the plain functions say. -/
import Derived.Test.YthblmgfbdkdkhaaProg
import Derived.Test.YthblmgfbdkdkhaaLib
import Derived.WalkSpells
import Derived.WalkLawsBesides
namespace Go.Proofs.Ythblmgfbdkdkhaa
open Go.RowKit

structure Ev where
  kind : Int
  day : Int
  tr : Int
  amount : Int
  ref : Int

def Ev.cells (e : Ev) : List Value := [.int .i64 e.kind, .int .i64 e.day, .int .i64 e.tr, .int .i64 e.amount, .int .i64 e.ref]
def Ev.zero : Ev := ⟨0, 0, 0, 0, 0⟩
def evCells (l : List Ev) : List Value := l.flatMap Ev.cells

theorem evCells_at (l : List Ev) (k j : Nat) (hk : k < l.length) (hj : j < 5) : (evCells l)[5 * k + j]? = (l.getD k Ev.zero).cells[j]? := by
  induction l generalizing k with
  | nil => simp at hk
  | cons e l ih =>
    unfold evCells
    rw [List.flatMap_cons]
    have hlen : e.cells.length = 5 := rfl
    cases k with
    | zero =>
      rw [List.getElem?_append_left (by omega)]
      simp [List.getD]
    | succ k =>
      rw [List.getElem?_append_right (by omega)]
      have := ih k (by simp at hk; omega)
      unfold evCells at this
      rw [hlen, show 5 * (k + 1) + j - 5 = 5 * k + j from by omega, this]
      simp [List.getD]

def payCap : Int := 1000000000000000

def paidGo (first due : Int) : Int → List Ev → Int × Int
  | all, [] => (all, 0)
  | all, e :: l => if e.kind = 2 ∧ first ≤ e.day ∧ e.day ≤ due then (if e.amount < 0 ∨ 1000000000000000 < e.amount then (0, 5) else paidGo first due (min (all + e.amount) 1000000000000000) l) else paidGo first due all l

/-- A slice of events. -/
def Evs (w : World) (B : Nat) (A : Option Addr) (n : Nat) (l : List Ev) : Prop := Reads w B 5 A n (evCells l)

theorem evCells_length (l : List Ev) : (evCells l).length = l.length * 5 := by
  induction l with
  | nil => rfl
  | cons e l ih =>
    unfold evCells at *
    rw [List.flatMap_cons, List.length_append, ih]
    have : e.cells.length = 5 := rfl
    simp
    omega

section
variable {w w' : World} {B n : Nat} {A : Option Addr} {l : List Ev}
theorem Evs.len (h : Evs w B A n l) : l.length = n := by
  have := h.1
  rw [evCells_length] at this
  omega
theorem Evs.below (h : Evs w B A n l) (hb : Below B w w') : Evs w' B A n l := Reads.below h hb
theorem Evs.at_ {k : Nat} (h : Evs w B A n l) (hk : k < n) : ∃ b o, A = some ⟨b, o, none⟩ ∧ b < B ∧
    w.cell? ⟨b, o + k * 5, none⟩ = some (.int .i64 (l.getD k Ev.zero).kind) ∧ w.cell? ⟨b, o + k * 5 + 1, none⟩ = some (.int .i64 (l.getD k Ev.zero).day) ∧ w.cell? ⟨b, o + k * 5 + 2, none⟩ = some (.int .i64 (l.getD k Ev.zero).tr) ∧ w.cell? ⟨b, o + k * 5 + 3, none⟩ = some (.int .i64 (l.getD k Ev.zero).amount) ∧ w.cell? ⟨b, o + k * 5 + 4, none⟩ = some (.int .i64 (l.getD k Ev.zero).ref) := by
  obtain ⟨b, o, e, hb, hc⟩ := Reads.lit h (by omega) (by omega)
  have hl := h.len
  have hm : k * 5 = 5 * k := by omega
  refine ⟨b, o, e, hb, ?_⟩
  rw [hm]
  simp only [Nat.add_assoc]
  refine ⟨?_, ?_, ?_, ?_, ?_⟩
  · exact hc _ _ (evCells_at l k 0 (by omega) (by omega))
  · exact hc _ _ (evCells_at l k 1 (by omega) (by omega))
  · exact hc _ _ (evCells_at l k 2 (by omega) (by omega))
  · exact hc _ _ (evCells_at l k 3 (by omega) (by omega))
  · exact hc _ _ (evCells_at l k 4 (by omega) (by omega))
end

theorem paidGo_skip {first due all : Int} {e : Ev} {r : List Ev} (h : ¬ (e.kind = 2 ∧ first ≤ e.day ∧ e.day ≤ due)) : paidGo first due all (e :: r) = paidGo first due all r := by
  rw [paidGo, if_neg h]
theorem paidGo_bad {first due all : Int} {e : Ev} {r : List Ev} (h : e.kind = 2 ∧ first ≤ e.day ∧ e.day ≤ due) (hb : e.amount < 0 ∨ 1000000000000000 < e.amount) : paidGo first due all (e :: r) = (0, 5) := by
  rw [paidGo, if_pos h, if_pos hb]
theorem paidGo_more {first due all : Int} {e : Ev} {r : List Ev} (h : e.kind = 2 ∧ first ≤ e.day ∧ e.day ≤ due) (hb : 0 ≤ e.amount ∧ e.amount ≤ 1000000000000000) :
    paidGo first due all (e :: r) = paidGo first due (if 1000000000000000 < all + e.amount then 1000000000000000 else all + e.amount) r := by
  rw [paidGo, if_pos h, if_neg (by omega)]
  congr 1
  split <;> omega

theorem drop_ev (l : List Ev) (k : Nat) (h : k < l.length) : l.drop k = l.getD k Ev.zero :: l.drop (k + 1) := by
  rw [List.drop_eq_getElem_cons h]
  simp [List.getD, List.getElem?_eq_getElem h]

set_option maxRecDepth 100000 in
set_option maxHeartbeats 1000000 in
theorem refPaid_any (first due : Int) (A : Option Addr) (n cap B : Nat) (l : List Ev) (w : World) (hr : Evs w B A n l) (hB : B ≤ w.heap.size) (hn : n ≤ maxLen) :
    Calls Try.prog 20 #[.int .i64 first, .int .i64 due, .slice A n cap] w fun e w' => e = .returned (.tuple #[.int .i64 (paidGo first due 0 l).1, .int .i64 (paidGo first due 0 l).2]) ∧ Below w.heap.size w w' := by
  unfold maxLen at hn
  go_enter Try.func20, Try.ntmps20
  go_wp2
  go_loopw [8, 9] (fun s i wr => ∃ (k : Nat) (all : Int), k ≤ n ∧ i = .int .i64 k ∧ s = .int .i64 all ∧ 0 ≤ all ∧ all ≤ 1000000000000000 ∧ paidGo first due all (l.drop k) = paidGo first due 0 l ∧ Below w.heap.size w wr) (fun _ i _ => n - (intOf i).toNat)
  case atStart => exact ⟨0, 0, by omega, rfl, rfl, by omega, by omega, rfl, Below.refl _ _⟩
  case round =>
    obtain ⟨k, all, hk, rfl, rfl, ha0, ha1, hgo, hbel⟩ := hrel
    have hlen := hr.len
    have hdrop := drop_ev l k
    have HG := Lib.hid hgo
    have HD := Lib.hid hdrop
    have HL := Lib.hid hlen
    clear hgo hdrop hlen
    by_cases hlt : k < n
    · obtain ⟨b, o, rfl, hbk, c0, c1, c2, c3, c4⟩ := (hr.below (hbel.mono hB)).at_ hlt
      have hd := HD.out (by rw [HL.out]; exact hlt)
      generalize l.getD k Ev.zero = ev at *
      obtain ⟨kd, dy, tr, am, rf⟩ := ev
      dsimp only at c0 c1 c2 c3 c4
      have hg := HG.out
      rw [hd] at hg
      have HG2 := Lib.hid hg
      clear hg hd HG HD
      have hs := hbel.size
      have hB1 := (hbel.alloc hs (.cells #[.int .i64 kd, .int .i64 dy, .int .i64 tr, .int .i64 am, .int .i64 rf] 39))
      by_cases h1 : kd = 2 ∧ first ≤ dy ∧ dy ≤ due
      · obtain ⟨rfl, h2, h3⟩ := h1
        by_cases h4 : am < 0
        · have hbad := paidGo_bad (all := all) (r := l.drop (k + 1)) (e := ⟨2, dy, tr, am, rf⟩) ⟨rfl, h2, h3⟩ (.inl h4)
          have HB := Lib.hid hbad
          clear hbad
          go_wp2_with fail
          go_ret2
          refine ⟨?_, hB1⟩
          rw [← HG2.out, HB.out]
          rfl
        by_cases h5 : 1000000000000000 < am
        · have hbad := paidGo_bad (all := all) (r := l.drop (k + 1)) (e := ⟨2, dy, tr, am, rf⟩) ⟨rfl, h2, h3⟩ (.inr h5)
          have HB := Lib.hid hbad
          clear hbad
          go_wp2_with fail
          go_ret2
          refine ⟨?_, hB1⟩
          rw [← HG2.out, HB.out]
          rfl
        have hmore := paidGo_more (all := all) (r := l.drop (k + 1)) (e := ⟨2, dy, tr, am, rf⟩) ⟨rfl, h2, h3⟩ ⟨by dsimp only; omega, by dsimp only; omega⟩
        have HM := Lib.hid hmore
        clear hmore
        by_cases h6 : 1000000000000000 < all + am
        all_goals
          go_wp2_with fail
          go_roundw
          case rel =>
            refine ⟨k + 1, _, by omega, by go_num, rfl, ?_, ?_, ?_, hB1⟩
            · first | omega | (split <;> omega)
            · first | omega | (split <;> omega)
            · rw [← HG2.out, HM.out]
              first | rw [if_pos h6] | rw [if_neg (by omega)]
          case measure => simp [intOf]; omega
      · have hskip := paidGo_skip (all := all) (r := l.drop (k + 1)) (e := ⟨kd, dy, tr, am, rf⟩) h1
        have HK := Lib.hid hskip
        clear hskip
        by_cases h2 : kd = 2
        · subst h2
          by_cases h3 : first ≤ dy
          · have h4 : due < dy := by
              have : ¬ (dy ≤ due) := fun h => h1 ⟨rfl, h3, h⟩
              omega
            clear h1
            go_wp2_with fail
            go_roundw
            case rel => exact ⟨k + 1, all, by omega, by go_num, rfl, ha0, ha1, by rw [← HG2.out, HK.out], hB1⟩
            case measure => simp [intOf]; omega
          · clear h1
            go_wp2_with fail
            go_roundw
            case rel => exact ⟨k + 1, all, by omega, by go_num, rfl, ha0, ha1, by rw [← HG2.out, HK.out], hB1⟩
            case measure => simp [intOf]; omega
        · clear h1
          have h3 : (kd == 2) = false := by simp [h2]
          have h4 : (kd != 2) = true := by simp [h2]
          clear h2
          go_wp2_with fail
          go_roundw
          case rel => exact ⟨k + 1, all, by omega, by go_num, rfl, ha0, ha1, by rw [← HG2.out, HK.out], hB1⟩
          case measure => simp [intOf]; omega
    · have he : paidGo first due all (l.drop k) = (all, 0) := by
        rw [List.drop_of_length_le (by rw [HL.out]; omega)]
        rfl
      have HE := Lib.hid he
      clear he
      go_wp2_with fail
      go_ret2
      refine ⟨?_, hbel⟩
      rw [← HG.out, HE.out]
      rfl
set_option maxRecDepth 100000 in
set_option maxHeartbeats 1000000 in
theorem paid_any (first due : Int) (A : Option Addr) (n cap B : Nat) (l : List Ev) (w : World) (hr : Evs w B A n l) (hB : B ≤ w.heap.size) (hn : n ≤ maxLen) :
    Calls Try.prog 19 #[.int .i64 first, .int .i64 due, .slice A n cap] w fun e w' => e = .returned (.tuple #[.int .i64 (paidGo first due 0 l).1, .int .i64 (paidGo first due 0 l).2]) ∧ Below w.heap.size w w' := by
  unfold maxLen at hn
  go_enter Try.func19, Try.ntmps19
  go_wp2
  refine wp_scope_one 0 (fun a' wr => ∃ (k : Nat) (all : Int) (u3 u4 u5 u6 u7 u10 u11 u12 u13 u14 u15 u16 u17 u18 u19 u20 u21 u22 u23 u24 u25 u26 u27 u28 u29 u30 u31 u32 u33 u34 u35 u36 u37 u38 u39 u40 u41 u42 u43 u44 u45 u46 u47 u48 u49 : Value), k ≤ n ∧ 0 ≤ all ∧ all ≤ 1000000000000000 ∧ paidGo first due all (l.drop k) = paidGo first due 0 l ∧ Below w.heap.size w wr ∧ a' = { tmps := #[.int .i64 first, .int .i64 due, .slice A n cap, u3, u4, u5, u6, u7, .int .i64 all, .int .i64 k, u10, u11, u12, u13, u14, u15, u16, u17, u18, u19, u20, u21, u22, u23, u24, u25, u26, u27, u28, u29, u30, u31, u32, u33, u34, u35, u36, u37, u38, u39, u40, u41, u42, u43, u44, u45, u46, u47, u48, u49], defers := [] }) (fun a' _ => n - (intOf (a'.tmps.getD 9 undef)).toNat) rfl ?_ ?_
  · rintro a' wr ⟨k, all, u3, u4, u5, u6, u7, u10, u11, u12, u13, u14, u15, u16, u17, u18, u19, u20, u21, u22, u23, u24, u25, u26, u27, u28, u29, u30, u31, u32, u33, u34, u35, u36, u37, u38, u39, u40, u41, u42, u43, u44, u45, u46, u47, u48, u49, hk, ha0, ha1, hgo, hbel, rfl⟩
    have hlen := hr.len
    have hdrop := drop_ev l k
    have HG := Lib.hid hgo
    have HD := Lib.hid hdrop
    have HL := Lib.hid hlen
    clear hgo hdrop hlen
    by_cases hlt : k < n
    · obtain ⟨b, o, rfl, hbk, c0, c1, c2, c3, c4⟩ := (hr.below (hbel.mono hB)).at_ hlt
      have hd := HD.out (by rw [HL.out]; exact hlt)
      generalize l.getD k Ev.zero = ev at *
      obtain ⟨kd, dy, tr, am, rf⟩ := ev
      dsimp only at c0 c1 c2 c3 c4
      have hg := HG.out
      rw [hd] at hg
      have HG2 := Lib.hid hg
      clear hg hd HG HD
      have hs := hbel.size
      have hB1 := (hbel.alloc hs (.cells #[.int .i64 kd, .int .i64 dy, .int .i64 tr, .int .i64 am, .int .i64 rf] 39))
      by_cases h1 : kd = 2 ∧ first ≤ dy ∧ dy ≤ due
      · obtain ⟨rfl, h2, h3⟩ := h1
        by_cases h4 : am < 0
        · have hbad := paidGo_bad (all := all) (r := l.drop (k + 1)) (e := ⟨2, dy, tr, am, rf⟩) ⟨rfl, h2, h3⟩ (.inl h4)
          have HB := Lib.hid hbad
          clear hbad
          go_wp2_with fail
          simp only [Exit.jump]
          go_ret2
          refine ⟨?_, hB1⟩
          rw [← HG2.out, HB.out]
          rfl
        by_cases h5 : 1000000000000000 < am
        · have hbad := paidGo_bad (all := all) (r := l.drop (k + 1)) (e := ⟨2, dy, tr, am, rf⟩) ⟨rfl, h2, h3⟩ (.inr h5)
          have HB := Lib.hid hbad
          clear hbad
          go_wp2_with fail
          simp only [Exit.jump]
          go_ret2
          refine ⟨?_, hB1⟩
          rw [← HG2.out, HB.out]
          rfl
        have hmore := paidGo_more (all := all) (r := l.drop (k + 1)) (e := ⟨2, dy, tr, am, rf⟩) ⟨rfl, h2, h3⟩ ⟨by dsimp only; omega, by dsimp only; omega⟩
        have HM := Lib.hid hmore
        clear hmore
        by_cases h6 : 1000000000000000 < all + am
        all_goals
          go_wp2_with fail
          go_step3
          refine ⟨rfl, ⟨k + 1, if 1000000000000000 < all + am then 1000000000000000 else all + am, ?_⟩, ?_⟩
          · (repeat apply Exists.intro)
            refine ⟨by omega, by split <;> omega, by split <;> omega, by rw [← HG2.out, HM.out], hB1, ?_⟩
            first | rw [if_pos h6] | rw [if_neg (by omega)]
            rfl
          · simp [intOf]
            omega
      · have hskip := paidGo_skip (all := all) (r := l.drop (k + 1)) (e := ⟨kd, dy, tr, am, rf⟩) h1
        have HK := Lib.hid hskip
        clear hskip
        by_cases h2 : kd = 2
        · subst h2
          by_cases h3 : first ≤ dy
          · have h4 : due < dy := by
              have : ¬ (dy ≤ due) := fun h => h1 ⟨rfl, h3, h⟩
              omega
            clear h1
            go_wp2_with fail
            go_step3
            refine ⟨rfl, ⟨k + 1, all, ?_⟩, ?_⟩
            · (repeat apply Exists.intro)
              exact ⟨by omega, ha0, ha1, by rw [← HG2.out, HK.out], hB1, rfl⟩
            · simp [intOf]
              omega
          · clear h1
            go_wp2_with fail
            go_step3
            refine ⟨rfl, ⟨k + 1, all, ?_⟩, ?_⟩
            · (repeat apply Exists.intro)
              exact ⟨by omega, ha0, ha1, by rw [← HG2.out, HK.out], hB1, rfl⟩
            · simp [intOf]
              omega
        · clear h1
          have h3 : (kd == 2) = false := by simp [h2]
          have h4 : (kd != 2) = true := by simp [h2]
          clear h2
          go_wp2_with fail
          go_step3
          refine ⟨rfl, ⟨k + 1, all, ?_⟩, ?_⟩
          · (repeat apply Exists.intro)
            exact ⟨by omega, ha0, ha1, by rw [← HG2.out, HK.out], hB1, rfl⟩
          · simp [intOf]
            omega
    · have he : paidGo first due all (l.drop k) = (all, 0) := by
        rw [List.drop_of_length_le (by rw [HL.out]; omega)]
        rfl
      have HE := Lib.hid he
      clear he
      go_wp2_with fail
      simp only [Exit.jump]
      go_ret2
      refine ⟨?_, hbel⟩
      rw [← HG.out, HE.out]
      rfl
  · intro hp
    go_wp2
    go_step3
    rename_i hk
    refine hk _ _ (hp _ _ ⟨0, 0, ?_⟩)
    (repeat apply Exists.intro)
    exact ⟨by omega, by omega, by omega, rfl, Below.refl _ _, rfl⟩

end Go.Proofs.Ythblmgfbdkdkhaa
