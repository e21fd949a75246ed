/- The contract of find's closure: a span more behind those found, and whether the day is in it. -/
import Derived.Test.YtbkbeblogfakjaaCycSpan2
import Derived.StillTailTactics
import Derived.Deep.QuietTactic
namespace Go.Proofs.Ytbkbeblogfakjaa
open Go.RowKit
set_option linter.unusedVariables false
set_option linter.unusedSimpArgs false

theorem Try.info_span : (Try.prog.info? 39).map (fun i => (i.zero, i.size, i.bytes)) = some (some (.agg #[.int .i64 0, .int .i64 0]), 2, 16) := by kernel_rfl

/-- The cells of spans. -/
def spanCells (l : List (Int × Int)) : List Value := l.flatMap fun p => [.int .i64 p.1, .int .i64 p.2]
theorem spanCells_length (l : List (Int × Int)) : (spanCells l).length = l.length * 2 := by
  unfold spanCells
  induction l with
  | nil => rfl
  | cons a l ih => rw [List.flatMap_cons, List.length_append, ih]; simp; omega
theorem spanCells_append (a b : List (Int × Int)) : spanCells (a ++ b) = spanCells a ++ spanCells b := by unfold spanCells; rw [List.flatMap_append]
theorem spanCells_one (l : List (Int × Int)) : ∀ u ∈ spanCells l, u.oneCell' = true := by
  intro u hu
  unfold spanCells at hu
  rw [List.mem_flatMap] at hu
  obtain ⟨e, _, he⟩ := hu
  simp only [List.mem_cons, List.not_mem_nil, or_false] at he
  rcases he with rfl | rfl <;> rfl

theorem own_form {w : World} {base : Nat} {e : TypeId} {size n : Nat} {v : Value} {xs : List Value} (h : w.ownsRow base e size v n xs) : ∃ A c, v = .slice A n c ∧ Reads w w.heap.size size A n xs := by
  rcases h.2 with ⟨rfl, rfl⟩ | ⟨g, cap, cur, rfl, _⟩
  · exact ⟨none, 0, rfl, h.1, fun h => absurd h (by omega)⟩
  · exact ⟨_, _, rfl, Reads.of_own h⟩

theorem own_keep {w w' : World} {base : Nat} {e : TypeId} {size : Nat} {v : Value} {n : Nat} {xs : List Value} (h : w.ownsRow base e size v n xs) (hk : ∀ g cs, base ≤ g → Blk w g e cs → Blk w' g e cs) : w'.ownsRow base e size v n xs := by
  refine ⟨h.1, ?_⟩
  rcases h.2 with hn | ⟨g, cap, cur, hv, hb, hg, rest⟩
  · exact .inl hn
  · exact .inr ⟨g, cap, cur, hv, hb, hk g cur hb hg, rest⟩
theorem own_below {w w' : World} {base : Nat} {e : TypeId} {size : Nat} {v : Value} {n : Nat} {xs : List Value} (h : w.ownsRow base e size v n xs) (hb : Below w.heap.size w w') : w'.ownsRow base e size v n xs := own_keep h fun g cs _ k => k.below hb k.lt
theorem own_set {w : World} {base : Nat} {e : TypeId} {size : Nat} {v : Value} {n : Nat} {xs : List Value} (h : w.ownsRow base e size v n xs) {p : Addr} (hp : p.block < base) (u : Value) : (w.setCell p u).ownsRow base e size v n xs := own_keep h fun g cs hg k => k.far (by omega) u
theorem new_span (w : World) (t : TypeId) (f l : Int) : ∀ j u, (spanCells [(f, l)])[j]? = some u → (w.alloc (.cells (scells f l) t)).cell? ((⟨w.heap.size, 0, none⟩ : Addr).add j) = some u := by
  intro j u hj
  have hk := Blk.new w t (scells f l)
  match j, hj with
  | 0, hj => injection hj with hj; subst hj; exact scell0 hk
  | 1, hj => injection hj with hj; subst hj; exact scell1 hk
  | k + 2, hj => cases hj

set_option maxRecDepth 100000 in
set_option maxHeartbeats 1000000 in
theorem findKeep_any (k f l day : Int) (b0 p q r : Bool) (gF gD gI base n : Nat) (xs : List (Int × Int)) (v : Value) (w : World) (d1 : decide (f ≤ day) = p) (d2 : decide (day ≤ l) = q) (d3 : decide (l < day) = r)
    (hF : Blk w gF 45 #[v]) (hD : Blk w gD 3 #[.int .i64 day]) (hI : Blk w gI 4 #[.bool b0]) (n1 : gF ≠ gD) (n2 : gF ≠ gI) (n3 : gD ≠ gI) (m1 : gF < base) (m2 : gD < base) (m3 : gI < base) (hbase : base ≤ w.heap.size)
    (hown : w.ownsRow base 39 2 v n (spanCells xs)) (hn : n ≤ 1000) :
    Calls Try.prog 44 #[.int .i64 k, .agg #[.int .i64 f, .int .i64 l], .pointer (some ⟨gF, 0, none⟩), .pointer (some ⟨gD, 0, none⟩), .pointer (some ⟨gI, 0, none⟩)] w fun e w' => e = .returned (.bool (r && decide (k < 300))) ∧ ∃ v', Blk w' gF 45 #[v'] ∧ Blk w' gI 4 #[.bool (p && q)] ∧ w'.ownsRow base 39 2 v' (n + 1) (spanCells (xs ++ [(f, l)])) ∧ (∀ g t cs, g ≠ gF → g ≠ gI → g < base → Blk w g t cs → Blk w' g t cs) ∧ (∀ B, B ≤ gF → B ≤ gI → Below B w w') := by
  obtain ⟨i0, hi, hz0, hz1, hz2⟩ := info_parts Try.info_span
  have a1 := ocell hF
  have a2 := ocell hD
  have a3 := ocell hI
  have z1 := hF.frozen 0
  have z3 := hI.frozen 0
  have hlt1 := hF.lt
  have hlt2 := hD.lt
  have hlt3 := hI.lt
  go_enter Try.func44, Try.ntmps44
  go_wp2_with (at_builtin; refine wpList_append_own _ rfl _ _ 45 rfl base 39 i0 _ 2 16 Try.underlying45 hi hz0 hz1 hz2 rfl (by decide) _ _ _ rfl ((hown.alloc _).alloc _) ⟨w.heap.size + 1, 0, none⟩ 1 1 (spanCells [(f, l)]) rfl rfl ?c1 ?c2 ?c3 ?c4 ?c5 ?_)
  case c1 =>
    have h := new_span (w.alloc (.cells (scells f l) 39)) 39 f l
    rw [show (w.alloc (.cells (scells f l) 39)).heap.size = w.heap.size + 1 from by simp] at h
    exact h
  case c2 => exact spanCells_one _
  case c3 => unfold maxLen; omega
  case c4 => omega
  case c5 => simp; omega
  intro v' wn hown' hgrow _
  rw [← spanCells_append] at hown'
  obtain ⟨A', c', rfl, _⟩ := own_form hown'
  have hrow := hown.lt
  have keep : ∀ g t cs, g < base → Blk w g t cs → Blk wn g t cs := fun g t cs hg h => ((h.alloc _).alloc _).grown hgrow (fun e => by have := (hrow g e.symm).1; omega)
  have kt : Blk wn w.heap.size 39 (scells f l) := ((Blk.new w _ _).alloc _).grown hgrow (fun e => by have := (hrow _ e.symm).2; omega)
  have kF := keep _ _ _ m1 hF
  have kD := keep _ _ _ m2 hD
  have kI := keep _ _ _ m3 hI
  have bel : ∀ B, B ≤ gF → B ≤ gI → Below B w wn := fun B h1 _ => (((Below.refl B w).alloc (by omega) _).alloc (by simp; omega) _).grown hgrow (by simp; omega) (fun g hg => by have := (hrow g hg).1; omega)
  have kF2 : Blk (wn.setCell ⟨gF, 0, none⟩ (.slice A' (n + 1) c')) gF 45 #[.slice A' (n + 1) c'] := kF.set_ 0 (.slice A' (n + 1) c')
  have kD2 := kD.far (p := ⟨gF, 0, none⟩) (fun h => n1 h.symm) (.slice A' (n + 1) c')
  have kI2 := kI.far (p := ⟨gF, 0, none⟩) (fun h => n2 h.symm) (.slice A' (n + 1) c')
  have kt2 := kt.far (p := ⟨gF, 0, none⟩) (by simp; omega) (.slice A' (n + 1) c')
  have own2 : (wn.setCell ⟨gF, 0, none⟩ (.slice A' (n + 1) c')).ownsRow base 39 2 (.slice A' (n + 1) c') (n + 1) (spanCells (xs ++ [(f, l)])) := own_set hown' (by exact m1) (.slice A' (n + 1) c')
  have own3 := own_set own2 (p := ⟨gI, 0, none⟩) (by exact m3) (.bool (p && q))
  have kF3 := kF2.far (p := ⟨gI, 0, none⟩) n2 (.bool (p && q))
  have kI3 : Blk ((wn.setCell ⟨gF, 0, none⟩ (.slice A' (n + 1) c')).setCell ⟨gI, 0, none⟩ (.bool (p && q))) gI 4 #[.bool (p && q)] := kI2.set_ 0 _
  have fin : ∃ v'', Blk ((wn.setCell ⟨gF, 0, none⟩ (.slice A' (n + 1) c')).setCell ⟨gI, 0, none⟩ (.bool (p && q))) gF 45 #[v''] ∧ Blk ((wn.setCell ⟨gF, 0, none⟩ (.slice A' (n + 1) c')).setCell ⟨gI, 0, none⟩ (.bool (p && q))) gI 4 #[.bool (p && q)] ∧ ((wn.setCell ⟨gF, 0, none⟩ (.slice A' (n + 1) c')).setCell ⟨gI, 0, none⟩ (.bool (p && q))).ownsRow base 39 2 v'' (n + 1) (spanCells (xs ++ [(f, l)])) ∧ (∀ g t cs, g ≠ gF → g ≠ gI → g < base → Blk w g t cs → Blk ((wn.setCell ⟨gF, 0, none⟩ (.slice A' (n + 1) c')).setCell ⟨gI, 0, none⟩ (.bool (p && q))) g t cs) ∧ (∀ B, B ≤ gF → B ≤ gI → Below B w ((wn.setCell ⟨gF, 0, none⟩ (.slice A' (n + 1) c')).setCell ⟨gI, 0, none⟩ (.bool (p && q)))) :=
    ⟨(.slice A' (n + 1) c'), kF3, kI3, own3, fun g t cs h1 h2 h3 h => ((keep g t cs h3 h).far h1 _).far h2 _, fun B h1 h2 => ((bel B h1 h2).setCell (by exact h1) _).setCell (by exact h2) _⟩
  have e1 := ocell kF
  have e2 := ocell kD
  have e3 := ocell kI
  have e4 := scell0 kt
  have e5 := scell1 kt
  have g1 := ocell kF2
  have g2 := ocell kD2
  have g3 := ocell kI2
  have g4 := scell0 kt2
  have g5 := scell1 kt2
  have y1 := kF.frozen 0
  have y3 := kI.frozen 0
  have y4 := kI2.frozen 0
  have x2 := ocell (kD2.far (p := ⟨gI, 0, none⟩) n3 (.bool (p && q)))
  have x4 := scell0 (kt2.far (p := ⟨gI, 0, none⟩) (by simp; omega) (.bool (p && q)))
  have x5 := scell1 (kt2.far (p := ⟨gI, 0, none⟩) (by simp; omega) (.bool (p && q)))
  have FIN := Lib.hid fin
  have D1 := Lib.hid d1
  clear fin own3 own2 kF3 kI3 kF kD kI kt kF2 kD2 kI2 kt2 bel keep hrow hown hown' hgrow hF hD hI a1 a2 a3 z1 z3
  cases p
  · cases r
    · go_wp2_with fail
      go_ret
      exact ⟨rfl, FIN.out⟩
    · go_wp2_with fail
      go_ret
      exact ⟨rfl, FIN.out⟩
  · cases r
    · go_wp2_with fail
      go_ret
      exact ⟨rfl, FIN.out⟩
    · go_wp2_with fail
      go_ret
      exact ⟨rfl, FIN.out⟩
end Go.Proofs.Ytbkbeblogfakjaa
