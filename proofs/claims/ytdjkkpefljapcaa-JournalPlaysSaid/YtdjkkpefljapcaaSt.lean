/- The state of a journal on a pad: so many records, and blank leaves behind them; what Add and Open do to it. -/
import Derived.Test.YtdjkkpefljapcaaAdds
namespace Go.Proofs.Ytdjkkpefljapcaa
open Go.RowKit
set_option linter.unusedVariables false
set_option linter.unusedSimpArgs false

/-- A pad of N leaves on which these records stand, dry. -/
def padOf (N : Nat) (F s : Int) (rs : List (List Int)) : Pd := ⟨(laid 0 rs).map (Lf.mk 2) ++ List.replicate (N - usedBy rs) Lf.zero, s, F, false⟩
theorem padOf_len {N : Nat} {F s : Int} {rs : List (List Int)} (h : usedBy rs ≤ N) : (padOf N F s rs).l.length = N := by
  simp [padOf, laid_len]
  omega
theorem padOf_at {N : Nat} {F s : Int} {rs : List (List Int)} {k : Nat} (h : usedBy rs ≤ k) : ((padOf N F s rs).at k).is = 0 := by
  unfold Pd.at padOf
  simp only [List.getD]
  rw [List.getElem?_append_right (by simp [laid_len]; exact h), List.getElem?_replicate]
  split <;> rfl
theorem padOf_new (n : Int) : Pd.new n = padOf (min (max n 0) 20000).toNat 0 0 [] := by
  unfold Pd.new padOf
  simp [laid, usedBy]
theorem eachL_dry1 (ps : List (List Int)) : ∀ i, eachL (fun _ x => ⟨2, x.b⟩) i (ps.map (Lf.mk 1)) = ps.map (Lf.mk 2) := by
  induction ps with
  | nil => intro i; rfl
  | cons x ps ih => intro i; rw [List.map_cons, eachL, if_pos rfl, ih, List.map_cons]
theorem eachL_dry2 (f : Nat → Lf → Lf) (ps : List (List Int)) (i : Nat) : eachL f i (ps.map (Lf.mk 2)) = ps.map (Lf.mk 2) :=
  eachL_none' _ _ (by
    intro x hx
    obtain ⟨y, _, rfl⟩ := List.mem_map.1 hx
    show ¬ (2 : Int) = 1
    decide) i
theorem eachL_zero (f : Nat → Lf → Lf) (k i : Nat) : eachL f i (List.replicate k Lf.zero) = List.replicate k Lf.zero :=
  eachL_none' _ _ (by
    intro x hx
    rw [List.eq_of_mem_replicate hx]
    decide) i
/-- The leaves while a record is inked. -/
theorem padOf_lay {N : Nat} {F s : Int} {rs : List (List Int)} {ps : List (List Int)} (h : usedBy rs + ps.length ≤ N) : layL (padOf N F s rs).l (usedBy rs) ps = (laid 0 rs).map (Lf.mk 2) ++ ps.map (Lf.mk 1) ++ List.replicate (N - usedBy rs - ps.length) Lf.zero := by
  unfold layL padOf
  have hl : ((laid 0 rs).map (Lf.mk 2)).length = usedBy rs := by rw [List.length_map, laid_len]
  simp only
  rw [List.take_left' hl, show usedBy rs + ps.length = ((laid 0 rs).map (Lf.mk 2)).length + ps.length from by rw [hl], List.drop_length_add_append, List.drop_replicate]
theorem padOf_add {N : Nat} {F s : Int} {rs : List (List Int)} {b : List Int} (h : usedBy rs + need b ≤ N) (hs : s = 0 ∨ ((need b : Nat) : Int) + 1 < s) :
    (inkP (padOf N F s rs) (usedBy rs) (pagesV (usedBy rs) b)).stroke.dry = padOf N F (if s = 0 then 0 else s - need b - 1) (rs ++ [b]) := by
  have hlay := padOf_lay (F := F) (s := s) (ps := pagesV (usedBy rs) b) (by rw [pagesV_len]; exact h)
  have e1 : eachL (fun _ x => ⟨2, x.b⟩) 0 (layL (padOf N F s rs).l (usedBy rs) (pagesV (usedBy rs) b)) = (padOf N F s (rs ++ [b])).l := by
    rw [hlay, eachL_append, eachL_append, eachL_dry2, eachL_dry1, eachL_zero]
    unfold padOf
    simp only
    rw [laid_snoc, usedBy_snoc, List.map_append, Nat.zero_add, pagesV_len, Nat.sub_sub]
  have hst : (inkP (padOf N F s rs) (usedBy rs) (pagesV (usedBy rs) b)).stroke = { inkP (padOf N F s rs) (usedBy rs) (pagesV (usedBy rs) b) with snag := if s = 0 then 0 else s - need b - 1 } := by
    rcases hs with rfl | hs
    · rfl
    · have hsn : (inkP (padOf N F s rs) (usedBy rs) (pagesV (usedBy rs) b)).snag = s - need b := by
        show (if s = 0 then 0 else s - ((pagesV (usedBy rs) b).length : Int)) = _
        rw [pagesV_len, if_neg (by omega)]
      unfold Pd.stroke
      rw [hsn, if_neg (by omega), if_neg (by omega), if_neg (by omega)]
  rw [hst]
  unfold Pd.dry
  have : ({ inkP (padOf N F s rs) (usedBy rs) (pagesV (usedBy rs) b) with snag := if s = 0 then 0 else s - need b - 1 } : Pd).l = layL (padOf N F s rs).l (usedBy rs) (pagesV (usedBy rs) b) := rfl
  rw [this, e1]
  rfl

structure St (w0 w : World) (g h j N : Nat) (F s : Int) (rs : List (List Int)) (v : Value) : Prop where
  pad : PadAt w g h (padOf N F s rs)
  jou : JouAt w w0.heap.size g j v ⟨F, rs, usedBy rs⟩
  ge : w0.heap.size ≤ g ∧ w0.heap.size ≤ h ∧ w0.heap.size ≤ j
  below : Below w0.heap.size w0 w
  fit : usedBy rs ≤ N
  big : ∀ b ∈ rs, 1 ≤ b.length ∧ b.length ≤ 100000
section
variable {w0 w w' : World} {g h j N : Nat} {F s : Int} {rs : List (List Int)} {v : Value}
theorem St.next (a : St w0 w g h j N F s rs v) (hb : Below w.heap.size w w') : St w0 w' g h j N F s rs v := ⟨a.pad.below hb, a.jou.below hb, a.ge, a.below.trans (hb.mono a.below.size), a.fit, a.big⟩
theorem St.quiet (a : St w0 w g h j N F s rs v) (hb : Quiet w w') : St w0 w' g h j N F s rs v := a.next (hb.below _)
/-- Add, where there is room, and no snag in the way. -/
theorem St.add (a : St w0 w g h j N F s rs v) (ad : Addr) (len cap B : Nat) (b : List Int) (hm : Nums .u8 w B (some ad) len b) (hab : (∃ t cs, Blk w ad.block t cs) ∨ ad.block < w0.heap.size) (hne : ad.block ≠ g ∧ ad.block ≠ h) (hcap : len ≤ cap) (hcm : cap ≤ maxLen) (hb : isBytes b)
    (h1 : 1 ≤ len) (h2 : len ≤ 100000) (hF : F < 1000000000) (hfit : usedBy rs + need b ≤ N) (hs : s = 0 ∨ ((need b : Nat) : Int) + 1 < s) :
    Calls Try.prog 37 #[.pointer (some ⟨j, 0, none⟩), .slice (some ad) len cap] w fun e w' => e = .returned (.int .i64 0) ∧ ∃ v', St w0 w' g h j N F (if s = 0 then 0 else s - need b - 1) (rs ++ [b]) v' ∧ (v'.ownBlock = v.ownBlock ∨ ∃ k, v'.ownBlock = some k ∧ w.heap.size ≤ k) ∧ Safe v.ownBlock w w' := by
  have hl := hm.len
  refine (add_any ad len cap B b a.jou a.pad hm hab hne hcap hcm hb h1 h2 rfl rfl hF (by rw [padOf_len a.fit]; exact hfit) (fun n hn _ => padOf_at hn) ⟨a.ge.1, a.ge.2.1, a.ge.2.2, a.below.size⟩).mono ?_
  rintro e w' (⟨rfl, _, v', hp, hj, hv, hbl, hsf⟩ | ⟨rfl, s1, s2, _⟩)
  · refine ⟨rfl, v', ⟨?_, ?_, a.ge, a.below.trans hbl, ?_, ?_⟩, hv, hsf⟩
    · rw [padOf_add hfit hs] at hp
      exact hp
    · rw [usedBy_snoc]; exact hj
    · rw [usedBy_snoc]; exact hfit
    · intro x hx
      rcases List.mem_append.1 hx with hx | hx
      · exact a.big x hx
      · rw [List.mem_singleton] at hx
        subst hx
        omega
  · have s1' : 1 ≤ s := s1
    have s2' : s ≤ ((need b : Nat) : Int) + 1 := s2
    omega
theorem St.add0 (a : St w0 w g h j N F 0 rs v) (ad : Addr) (len cap B : Nat) (b : List Int) (hm : Nums .u8 w B (some ad) len b) (hab : (∃ t cs, Blk w ad.block t cs) ∨ ad.block < w0.heap.size) (hne : ad.block ≠ g ∧ ad.block ≠ h) (hcap : len ≤ cap) (hcm : cap ≤ maxLen) (hb : isBytes b)
    (h1 : 1 ≤ len) (h2 : len ≤ 100000) (hF : F < 1000000000) (hfit : usedBy rs + need b ≤ N) :
    Calls Try.prog 37 #[.pointer (some ⟨j, 0, none⟩), .slice (some ad) len cap] w fun e w' => e = .returned (.int .i64 0) ∧ ∃ v', St w0 w' g h j N F 0 (rs ++ [b]) v' ∧ (v'.ownBlock = v.ownBlock ∨ ∃ k, v'.ownBlock = some k ∧ w.heap.size ≤ k) ∧ Safe v.ownBlock w w' :=
  (a.add ad len cap B b hm hab hne hcap hcm hb h1 h2 hF hfit (.inl rfl)).mono fun e w' ⟨he, v', hs, hv⟩ => ⟨he, v', by simpa using hs, hv⟩
theorem St.full (a : St w0 w g h j N F s rs v) (A : Option Addr) (n c : Nat) (h1 : 1 ≤ n) (h2 : n ≤ 100000) (hr : N < usedBy rs + (n + 40) / 41) :
    Calls Try.prog 37 #[.pointer (some ⟨j, 0, none⟩), .slice A n c] w fun e w' => e = .returned (.int .i64 14) ∧ St w0 w' g h j N F s rs v ∧ Below w.heap.size w w' :=
  (add_full A n c a.jou a.pad rfl rfl h1 h2 (by rw [padOf_len a.fit]; exact hr)).mono fun e w' ⟨he, hb⟩ => ⟨he, a.next hb, hb⟩
/-- New, and Open. -/
theorem St.new {g h : Nat} {n : Int} {w1 : World} (hp : PadAt w1 g h (Pd.new n)) (h1 : w0.heap.size ≤ g) (h2 : w0.heap.size ≤ h) (hb : Below w0.heap.size w0 w1) : Calls Try.prog 36 #[.pointer (some ⟨g, 0, none⟩)] w1 fun e w' =>
    ∃ j v, e = .returned (.tuple #[.pointer (some ⟨j, 0, none⟩), .int .i64 0]) ∧ St w0 w' g h j (min (max n 0) 20000).toNat 0 0 [] v := by
  refine (open_any [] 0 hp rfl rfl (by show (0 : Int) < 1000000000; omega) (new_parse n)).mono ?_
  rintro e w2 ⟨j, v, rfl, hp, hj, hj1, ho⟩
  rw [new_open, padOf_new] at hp
  exact ⟨j, v, rfl, hp, hj.lower hb.size, ⟨h1, h2, Nat.le_trans hb.size hj1⟩, hb.trans (ho.below h1 h2 hb.size), Nat.zero_le _, fun b hb => by cases hb⟩
end
end Go.Proofs.Ytdjkkpefljapcaa
