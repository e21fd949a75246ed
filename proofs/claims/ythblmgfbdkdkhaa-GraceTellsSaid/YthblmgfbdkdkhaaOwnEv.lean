/- The contracts of lombardhelp.Own, Plain, Same and Kept at events: a copy with three places behind it; whether it is as it was. -/
import Derived.Test.YthblmgfbdkdkhaaProg
import Derived.Test.YthblmgfbdkdkhaaLib
import Derived.Test.YthblmgfbdkdkhaaGrace
import Derived.WalkSpells
import Derived.Deep.QuietTactic
import Derived.BigQuiet
import Derived.StillTailTactics
namespace Go.Proofs.Ythblmgfbdkdkhaa
open Go.RowKit

theorem Try.info_ev : (Try.prog.info? 39).map (fun i => (i.zero, i.size, i.bytes)) = some (some (.agg #[.int .i64 0, .int .i64 0, .int .i64 0, .int .i64 0, .int .i64 0]), 5, 40) := by kernel_rfl

def Ev.agg (e : Ev) : Value := .agg #[.int .i64 e.kind, .int .i64 e.day, .int .i64 e.tr, .int .i64 e.amount, .int .i64 e.ref]
def ownEvCells (l : List Ev) (f : Ev) : Array Value := (evCells (l ++ [f, f, f])).toArray

theorem evCells_one (l : List Ev) : ∀ u ∈ evCells l, u.oneCell' = true := by
  intro u hu
  unfold evCells at hu
  rw [List.mem_flatMap] at hu
  obtain ⟨e, _, he⟩ := hu
  unfold Ev.cells at he
  simp only [List.mem_cons, List.not_mem_nil, or_false] at he
  rcases he with rfl | rfl | rfl | rfl | rfl <;> rfl
theorem evCells_append (a b : List Ev) : evCells (a ++ b) = evCells a ++ evCells b := by unfold evCells; rw [List.flatMap_append]

theorem take_set5 (cur : List Value) (m : Nat) (v0 v1 v2 v3 v4 : Value) (h : m + 5 ≤ cur.length) :
    (((((cur.set m v0).set (m + 1) v1).set (m + 2) v2).set (m + 3) v3).set (m + 4) v4).take (m + 5) = cur.take m ++ [v0, v1, v2, v3, v4] := by
  apply List.ext_getElem?
  intro j
  by_cases hj : j < m
  · rw [List.getElem?_append_left (by simp; omega)]
    simp only [List.getElem?_take, List.getElem?_set]
    rw [if_pos (by omega), if_pos hj, if_neg (by omega), if_neg (by omega), if_neg (by omega), if_neg (by omega), if_neg (by omega)]
  · rw [List.getElem?_append_right (by simp; omega)]
    have hl : (cur.take m).length = m := by simp; omega
    rw [hl]
    by_cases h5 : j < m + 5
    · have : j = m ∨ j = m + 1 ∨ j = m + 2 ∨ j = m + 3 ∨ j = m + 4 := by omega
      simp only [List.getElem?_take, List.getElem?_set, if_pos h5]
      rcases this with rfl | rfl | rfl | rfl | rfl
      · simp (config := { decide := true }) [show j < cur.length by omega]
      · simp (config := { decide := true }) [show m + 1 < cur.length by omega, show m + 1 - m = 1 by omega]
      · simp (config := { decide := true }) [show m + 2 < cur.length by omega, show m + 2 - m = 2 by omega]
      · simp (config := { decide := true }) [show m + 3 < cur.length by omega, show m + 3 - m = 3 by omega]
      · simp (config := { decide := true }) [show m + 4 < cur.length by omega, show m + 4 - m = 4 by omega]
    · rw [List.getElem?_take, if_neg h5, List.getElem?_eq_none (by simp; omega)]

set_option maxRecDepth 100000 in
set_option maxHeartbeats 1000000 in
theorem ownEv_any (A : Option Addr) (n cap B : Nat) (l : List Ev) (f0 f1 f2 f3 f4 : Int) (w : World) (hr : Evs w B A n l) (hA : A = none → n = 0 ∧ cap = 0) (hB : B ≤ w.heap.size) (hn : n ≤ 100000) :
    Calls Try.prog 18 #[.slice A n cap, .agg #[.int .i64 f0, .int .i64 f1, .int .i64 f2, .int .i64 f3, .int .i64 f4]] w fun e w' => e = .returned (.slice (some ⟨w.heap.size + 1, 0, none⟩) n (n + 3)) ∧ Blk w' (w.heap.size + 1) 39 (ownEvCells l ⟨f0, f1, f2, f3, f4⟩) ∧ Below w.heap.size w w' := by
  obtain ⟨i0, hi, hz0, hz1, hz2⟩ := info_parts Try.info_ev
  have hlen := hr.len
  have hl := Lib.hid hlen
  clear hlen
  go_enter Try.func18, Try.ntmps18
  go_wp2_with (at_make; refine wpList_make_own _ rfl _ _ 36 rfl (w.heap.size + 1) 39 i0 _ 5 Try.underlying36 hi hz0 hz1 _ _ _ (n + 3) rfl rfl (by omega) ?b1 ?b2 ?b3 ?_)
  case b1 => rw [hz2]; omega
  case b2 => unfold maxLen; omega
  case b3 => simp
  intro w1 hown1 hg1
  have hr1 : Evs w1 B A n l := Reads.grown (Reads.alloc hr hB _) hg1 (by simp; omega) (fun g h => by cases h)
  go_wp2_with (at_builtin; refine wpList_append_fits_any _ rfl _ _ 36 rfl (w.heap.size + 1) 39 i0 5 Try.underlying36 hi hz1 (w.heap.size + 1) 0 (n + 3) [] rfl hown1 A n cap (evCells l) rfl ?c1 ?c2 ?c3 ?c4 ?c5 ?_)
  case c1 => rw [evCells_length, hl.out]
  case c2 => exact hA
  case c3 =>
    intro ad had j u hu
    obtain ⟨ad', e, _, hc⟩ := hr1.2 (by
      have := (List.getElem?_eq_some_iff.1 hu).1
      rw [evCells_length, hl.out] at this
      omega)
    rw [had] at e
    injection e with e
    subst e
    exact hc j u hu
  case c4 => exact evCells_one _
  case c5 => omega
  intro w2 hown2 hg2
  go_wp2
  obtain ⟨cur0, hblk0, hcs, htk⟩ := own_blk hown2
  have hb0 := (Below.refl w.heap.size w).alloc (Nat.le_refl _) (.cells #[.int .i64 f0, .int .i64 f1, .int .i64 f2, .int .i64 f3, .int .i64 f4] 39)
  have hb1 := hb0.grown hg1 hb0.size (fun _ h => by cases h)
  have hb2 := hb1.grown hg2 hb1.size (fun k h => by injection h with h; omega)
  have hbox0 : Blk w2 w.heap.size 39 #[.int .i64 f0, .int .i64 f1, .int .i64 f2, .int .i64 f3, .int .i64 f4] := ((Blk.new w _ _).grown hg1 (by simp)).grown hg2 (by simp)
  clear hown1 hg1 hg2 hb1 hb0 hr1 hown2
  have HC0 := Lib.hid hcs
  have HT0 := Lib.hid htk
  have HX0 := Lib.hid hbox0
  clear hcs htk hbox0
  go_loopw [7] (fun i wr => ∃ (k : Nat) (cur : Array Value), n ≤ k ∧ k ≤ n + 3 ∧ i = .int .i64 k ∧ Blk wr (w.heap.size + 1) 39 cur ∧ Blk wr w.heap.size 39 #[.int .i64 f0, .int .i64 f1, .int .i64 f2, .int .i64 f3, .int .i64 f4] ∧ cur.size = (n + 3) * 5 ∧ cur.toList.take (k * 5) = evCells (l ++ List.replicate (k - n) ⟨f0, f1, f2, f3, f4⟩) ∧ Below w.heap.size w wr) (fun i _ => n + 3 - (intOf i).toNat)
  case atStart => exact ⟨n, cur0, Nat.le_refl _, by omega, rfl, hblk0, HX0.out, HC0.out, by have := HT0.out; simpa using this, hb2⟩
  case round =>
    clear HC0 HT0 hblk0 hb2 HX0
    obtain ⟨k, cur, hk1, hk2, rfl, hblk, hbox, hcs, htk, hbel⟩ := hrel
    have HS := Lib.hid hcs
    have HT := Lib.hid htk
    have HB := Lib.hid hblk
    have HX := Lib.hid hbox
    clear hcs htk
    by_cases hlt : k < n + 3
    · have hks : k * 5 + 5 ≤ cur.size := by have := HS.out; omega
      have gc : ∀ j, j < 5 → ∃ v, wr.cell? ⟨w.heap.size + 1, k * 5 + j, none⟩ = some v := fun j hj => ⟨cur[k * 5 + j], by rw [hblk.cell]; exact Array.getElem?_eq_getElem (by omega)⟩
      obtain ⟨v0, g0⟩ := gc 0 (by omega)
      obtain ⟨v1, g1⟩ := gc 1 (by omega)
      obtain ⟨v2, g2⟩ := gc 2 (by omega)
      obtain ⟨v3, g3⟩ := gc 3 (by omega)
      obtain ⟨v4, g4⟩ := gc 4 (by omega)
      have z0 := hblk.frozen (k * 5)
      have z1 := hblk.frozen (k * 5 + 1)
      have z2 := hblk.frozen (k * 5 + 2)
      have z3 := hblk.frozen (k * 5 + 3)
      have z4 := hblk.frozen (k * 5 + 4)
      have x0 : wr.cell? ⟨w.heap.size, 0, none⟩ = some (.int .i64 f0) := by rw [hbox.cell]; rfl
      have x1 : wr.cell? ⟨w.heap.size, 1, none⟩ = some (.int .i64 f1) := by rw [hbox.cell]; rfl
      have x2 : wr.cell? ⟨w.heap.size, 2, none⟩ = some (.int .i64 f2) := by rw [hbox.cell]; rfl
      have x3 : wr.cell? ⟨w.heap.size, 3, none⟩ = some (.int .i64 f3) := by rw [hbox.cell]; rfl
      have x4 : wr.cell? ⟨w.heap.size, 4, none⟩ = some (.int .i64 f4) := by rw [hbox.cell]; rfl
      clear hblk hbox gc
      simp only [Nat.add_zero] at g0
      go_wp2
      go_roundw
      case rel =>
        refine ⟨k + 1, ((((cur.setIfInBounds (k * 5) (.int .i64 f0)).setIfInBounds (k * 5 + 1) (.int .i64 f1)).setIfInBounds (k * 5 + 2) (.int .i64 f2)).setIfInBounds (k * 5 + 3) (.int .i64 f3)).setIfInBounds (k * 5 + 4) (.int .i64 f4), by omega, by omega, by go_num,
          ((((HB.out.set_ _ _).set_ _ _).set_ _ _).set_ _ _).set_ _ _, ((((HX.out.far (by simp) _).far (by simp) _).far (by simp) _).far (by simp) _).far (by simp) _, by simp [HS.out], ?_,
          ((((hbel.setCell (by simp) _).setCell (by simp) _).setCell (by simp) _).setCell (by simp) _).setCell (by simp) _⟩
        have h1 := HT.out
        simp only [Array.toList_setIfInBounds]
        rw [show (k + 1) * 5 = k * 5 + 5 from by omega, take_set5 _ _ _ _ _ _ _ (by simpa using hks), h1]
        rw [show k + 1 - n = (k - n) + 1 from by omega, List.replicate_succ', ← List.append_assoc]
        simp only [evCells_append]
        rfl
      case measure => simp [intOf]; omega
    · have hke : k = n + 3 := by omega
      have HK := Lib.hid hke
      clear hke hblk hbox
      go_wp2
      go_ret
      refine ⟨rfl, ?_, hbel⟩
      have h1 := HT.out
      have h2 := HS.out
      have h3 := HK.out
      subst h3
      rw [List.take_of_length_le (by simp; omega)] at h1
      have h4 : cur = ownEvCells l ⟨f0, f1, f2, f3, f4⟩ := by
        unfold ownEvCells
        rw [← Array.toArray_toList (xs := cur), h1]
        simp [List.replicate]
      rw [← h4]
      exact HB.out

/-! ### are they alike -/
set_option maxRecDepth 100000 in
theorem eqEv_any (a0 a1 a2 a3 a4 : Int) (w : World) : Calls Try.prog 29 #[.agg #[.int .i64 a0, .int .i64 a1, .int .i64 a2, .int .i64 a3, .int .i64 a4], .agg #[.int .i64 a0, .int .i64 a1, .int .i64 a2, .int .i64 a3, .int .i64 a4]] w fun e w' => e = .returned (.bool true) ∧ Below w.heap.size w w' := by
  go_enter Try.func29, Try.ntmps29
  go_wp2
  go_ret
  exact ⟨rfl, ((Below.refl _ _).alloc (Nat.le_refl _) _).alloc (by simp) _⟩

set_option maxRecDepth 100000 in
theorem sameEv_eq (A A2 : Option Addr) (n c c2 B B2 : Nat) (l : List Ev) (w : World) (hr : Evs w B A n l) (hr2 : Evs w B2 A2 n l) (hB : B ≤ w.heap.size) (hB2 : B2 ≤ w.heap.size) (hn : n ≤ maxLen) :
    Calls Try.prog 28 #[.slice A n c, .slice A2 n c2, .func (.func 29) #[] #[]] w fun e w' => e = .returned (.bool true) ∧ Below w.heap.size w w' := by
  unfold maxLen at hn
  go_enter Try.func28, Try.ntmps28
  go_wp2
  go_loopw [7] (fun i wr => ∃ k : Nat, k ≤ n ∧ i = .int .i64 k ∧ Below w.heap.size w wr) (fun i _ => n - (intOf i).toNat)
  case atStart => exact ⟨0, by omega, rfl, Below.refl _ _⟩
  case round =>
    obtain ⟨k, hk, rfl, hq⟩ := hrel
    by_cases hlt : k < n
    · obtain ⟨b, o, rfl, hbk, c0, c1, c2, c3, c4⟩ := (hr.below (hq.mono hB)).at_ hlt
      obtain ⟨b2, o2, rfl, hbk2, d0, d1, d2, d3, d4⟩ := (hr2.below (hq.mono hB2)).at_ hlt
      generalize l.getD k Ev.zero = ev at *
      obtain ⟨kd, dy, tr, am, rf⟩ := ev
      dsimp only at c0 c1 c2 c3 c4 d0 d1 d2 d3 d4
      go_wp2_with fail
      go_still_tail 9, (by kernel_rfl)
      change wpList _ _ _ _ _ wr.drew
      have hq' : Below w.heap.size w wr.drew := hq.drew
      clear hq
      generalize wr.drew = w2 at *
      go_wp2_with fail
      refine (eqEv_any kd dy tr am rf _).mono ?_
      rintro e w3 ⟨rfl, hb3⟩
      go_wp2_with fail
      go_roundw
      case rel => exact ⟨k + 1, by omega, by go_num, hq'.trans (hb3.mono hq'.size)⟩
      case measure => simp [intOf]; omega
    · go_wp2
      go_ret
      exact ⟨rfl, hq⟩

set_option maxRecDepth 100000 in
theorem plainEv_eq (A A2 : Option Addr) (n c c2 B B2 : Nat) (l : List Ev) (w : World) (hr : Evs w B A n l) (hr2 : Evs w B2 A2 n l) (hB : B ≤ w.heap.size) (hB2 : B2 ≤ w.heap.size) (hn : n ≤ maxLen) :
    Calls Try.prog 25 #[.slice A n c, .slice A2 n c2] w fun e w' => e = .returned (.bool true) ∧ Below w.heap.size w w' := by
  go_enter Try.func25, Try.ntmps25
  go_wp2_with fail
  refine (sameEv_eq A A2 n c c2 B B2 l _ hr hr2 hB hB2 hn).mono ?_
  rintro e w' ⟨rfl, hq⟩
  go_wp2_with fail
  go_ret
  exact ⟨rfl, hq⟩

theorem ownEv_get (l : List Ev) (f : Ev) (k j : Nat) (h1 : l.length ≤ k) (h2 : k < l.length + 3) (hj : j < 5) : (ownEvCells l f)[k * 5 + j]? = f.cells[j]? := by
  unfold ownEvCells
  rw [List.getElem?_toArray, show k * 5 + j = 5 * k + j from by omega, evCells_at _ k j (by simp; omega) hj]
  have : k - l.length = 0 ∨ k - l.length = 1 ∨ k - l.length = 2 := by omega
  rw [List.getD, List.getElem?_append_right h1]
  rcases this with h | h | h <;> simp [h]
theorem own_evs {w : World} {g : Nat} {t : TypeId} {l : List Ev} {f : Ev} {n : Nat} (hn : l.length = n) (h : Blk w g t (ownEvCells l f)) : Evs w (g + 1) (some ⟨g, 0, none⟩) n l := by
  subst hn
  refine ⟨evCells_length l, fun _ => ⟨_, rfl, by simp, fun j u hu => ?_⟩⟩
  rw [Addr.add_lit]
  simp only [Nat.zero_add]
  rw [h.cell j]
  unfold ownEvCells
  rw [List.getElem?_toArray, evCells_append, List.getElem?_append_left (List.getElem?_eq_some_iff.1 hu).1]
  exact hu

set_option maxRecDepth 100000 in
set_option maxHeartbeats 1000000 in
theorem keptEv_any (g : Nat) (A2 : Option Addr) (n c2 B2 : Nat) (l : List Ev) (f0 f1 f2 f3 f4 : Int) (w : World) (hb : Blk w g 39 (ownEvCells l ⟨f0, f1, f2, f3, f4⟩)) (hr2 : Evs w B2 A2 n l) (hB2 : B2 ≤ w.heap.size) (hn : n ≤ 100000) :
    Calls Try.prog 23 #[.slice (some ⟨g, 0, none⟩) n (n + 3), .slice A2 n c2, .agg #[.int .i64 f0, .int .i64 f1, .int .i64 f2, .int .i64 f3, .int .i64 f4]] w fun e w' => e = .returned (.bool true) ∧ Below w.heap.size w w' := by
  have hl := hr2.len
  have HL := Lib.hid hl
  clear hl
  go_enter Try.func23, Try.ntmps23
  have hb0 := (Below.refl w.heap.size w).alloc (Nat.le_refl _) (.cells #[.int .i64 f0, .int .i64 f1, .int .i64 f2, .int .i64 f3, .int .i64 f4] 39)
  go_wp2_with fail
  refine (plainEv_eq _ A2 n _ c2 _ B2 l _ (own_evs HL.out (hb.alloc _)) (Reads.alloc hr2 hB2 _) (by simp; have := hb.lt; omega) (by simp; omega) (by unfold maxLen; omega)).mono ?_
  rintro e w1 ⟨rfl, hq⟩
  have hbox : Blk w1 w.heap.size 39 #[.int .i64 f0, .int .i64 f1, .int .i64 f2, .int .i64 f3, .int .i64 f4] := (Blk.new w _ _).below hq (by simp)
  have hrow : Blk w1 g 39 (ownEvCells l ⟨f0, f1, f2, f3, f4⟩) := (hb.alloc _).below hq (by simp; have := hb.lt; omega)
  have hbel : Below w.heap.size w w1 := hb0.trans (hq.mono (by simp))
  clear hb0 hq hb hr2
  go_wp2_with fail
  go_loopw [8] (fun i wr => ∃ k : Nat, n ≤ k ∧ k ≤ n + 3 ∧ i = .int .i64 k ∧ Quiet w1 wr) (fun i _ => n + 3 - (intOf i).toNat)
  case atStart => exact ⟨n, by omega, by omega, rfl, Quiet.refl _⟩
  case round =>
    obtain ⟨k, hk1, hk2, rfl, hq⟩ := hrel
    have HQ := Lib.hid hq
    by_cases hlt : k < n + 3
    · have hrow' := hq.blk hrow
      have hbox' := hq.blk hbox
      have gc : ∀ j, j < 5 → wr.cell? ⟨g, k * 5 + j, none⟩ = (Ev.cells ⟨f0, f1, f2, f3, f4⟩)[j]? := fun j hj => by rw [hrow'.cell, ownEv_get l _ k j (by rw [HL.out]; exact hk1) (by rw [HL.out]; exact hlt) hj]
      have g0 : wr.cell? ⟨g, k * 5, none⟩ = some (.int .i64 f0) := gc 0 (by omega)
      have g1 : wr.cell? ⟨g, k * 5 + 1, none⟩ = some (.int .i64 f1) := gc 1 (by omega)
      have g2 : wr.cell? ⟨g, k * 5 + 2, none⟩ = some (.int .i64 f2) := gc 2 (by omega)
      have g3 : wr.cell? ⟨g, k * 5 + 3, none⟩ = some (.int .i64 f3) := gc 3 (by omega)
      have g4 : wr.cell? ⟨g, k * 5 + 4, none⟩ = some (.int .i64 f4) := gc 4 (by omega)
      have x0 : wr.cell? ⟨w.heap.size, 0, none⟩ = some (.int .i64 f0) := by rw [hbox'.cell]; rfl
      have x1 : wr.cell? ⟨w.heap.size, 1, none⟩ = some (.int .i64 f1) := by rw [hbox'.cell]; rfl
      have x2 : wr.cell? ⟨w.heap.size, 2, none⟩ = some (.int .i64 f2) := by rw [hbox'.cell]; rfl
      have x3 : wr.cell? ⟨w.heap.size, 3, none⟩ = some (.int .i64 f3) := by rw [hbox'.cell]; rfl
      have x4 : wr.cell? ⟨w.heap.size, 4, none⟩ = some (.int .i64 f4) := by rw [hbox'.cell]; rfl
      clear gc hrow' hbox' hq hrow hbox
      go_wp2_with fail
      go_quiet (fail)
      go_wp2
      go_roundw
      case rel => exact ⟨k + 1, by omega, by omega, by go_num, HQ.out.then_ _⟩
      case measure => simp [intOf]; omega
    · clear hrow hbox
      go_wp2
      go_ret
      exact ⟨rfl, hbel.trans (hq.below _)⟩
end Go.Proofs.Ythblmgfbdkdkhaa
