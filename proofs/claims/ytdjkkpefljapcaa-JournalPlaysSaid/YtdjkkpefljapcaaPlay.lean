/- What Page writes is read back: one leaf, a record, many records; pads of blank leaves. -/
import Derived.Test.YtdjkkpefljapcaaOpen
import Derived.Test.YtdjkkpefljapcaaLists
namespace Go.Proofs.Ytdjkkpefljapcaa
open Go.RowKit
set_option linter.unusedVariables false
set_option linter.unusedSimpArgs false

/-! ### one leaf -/
theorem page_get4 (n : Int) (first last : Bool) (b : List Int) : (pageV n first last b).getD 4 0 = flagV first last := by simp [pageV, hi4, bodyV, List.getD]
theorem page_get5 (n : Int) (first last : Bool) (b : List Int) : (pageV n first last b).getD 5 0 = (b.length : Int) := by simp [pageV, hi4, bodyV, List.getD]
theorem page_get47 (n : Int) (first last : Bool) {b : List Int} (h : b.length ≤ 41) : (pageV n first last b).getD 47 0 = 90 := by
  unfold pageV
  rw [List.getD, List.getElem?_append_right (by rw [List.length_append, bodyV_len h, hi4_len]; decide), List.length_append, bodyV_len h, hi4_len]
  rfl
theorem page_part (n : Int) (first last : Bool) {b : List Int} (h : b.length ≤ 41) : partOf (pageV n first last b) = b := by
  unfold partOf
  rw [page_get5]
  unfold pageV bodyV hi4
  simp
theorem flag_le (first last : Bool) : 0 ≤ flagV first last ∧ flagV first last ≤ 3 := by cases first <;> cases last <;> decide
theorem flag_first (first last : Bool) : decide (flagV first last % 2 = 1) = first := by cases first <;> cases last <;> decide
theorem flag_last (first last : Bool) : decide (2 ≤ flagV first last) = last := by cases first <;> cases last <;> decide
theorem page_pad (n : Int) (first last : Bool) {b : List Int} (h : b.length ≤ 41) : padOk (pageV n first last b) := by
  unfold padOk
  rw [page_get5]
  intro i h1 h2
  unfold pageV bodyV
  rw [Int.toNat_natCast] at h1
  rw [List.getD, List.append_assoc, List.getElem?_append_right (by rw [hi4_len]; omega), hi4_len, List.getElem?_append_left (by simp; omega), List.getElem?_append_right (by simp; omega)]
  simp
  rw [List.getElem?_replicate]
  split <;> rfl
theorem page_sum (n : Int) (first last : Bool) {b : List Int} (h : b.length ≤ 41) : sumOk n (pageV n first last b) := by
  unfold sumOk
  rw [pageV_mid h]
  unfold pageV
  rw [List.append_assoc, List.take_left' (hi4_len _)]
theorem page_good {n : Int} (first last : Bool) {b : List Int} (h0 : 0 ≤ n) (h1 : n ≤ 20000) (hb : 1 ≤ b.length) (h : b.length ≤ 41) (hl : last = true ∨ b.length = 41) : good n (pageV n first last b) := by
  refine ⟨⟨h0, h1, page_get47 _ _ _ h, ?_, ?_, ?_, ?_⟩, page_pad _ _ _ h, page_sum _ _ _ h⟩
  · rw [page_get4]; exact (flag_le _ _).2
  · rw [page_get5]; omega
  · rw [page_get5]; omega
  · rw [page_get5, page_get4]
    rcases hl with rfl | hl
    · right
      exact of_decide_eq_true (flag_last first true)
    · left; omega

/-! ### one record -/
theorem pgOf_page {b : List Int} {n i : Nat} (hi : i < need b) : pgOf b n (n + (b.length - 1) / 41) i i = pageV ((n + i : Nat) : Int) (decide (i = 0)) (decide (i + 1 = need b)) ((b.drop (41 * i)).take 41) ∧ (decide (i + 1 = need b) = true ∨ ((b.drop (41 * i)).take 41).length = 41) ∧ 1 ≤ ((b.drop (41 * i)).take 41).length := by
  unfold need at hi ⊢
  have hl : 41 * i < b.length := by omega
  unfold pgOf chunkB
  rw [clip_of hl]
  have hd : decide (n + i = n + (b.length - 1) / 41) = decide (i + 1 = (b.length + 40) / 41) := decide_eq_decide.2 (by omega)
  rw [hd]
  have hor : decide (i + 1 = (b.length + 40) / 41) = true ∨ ((b.drop (41 * i)).take 41).length = 41 := by
    by_cases h : i + 1 = (b.length + 40) / 41
    · exact .inl (decide_eq_true h)
    · right; simp; omega
  refine ⟨?_, hor, by simp; omega⟩
  unfold pageT
  rw [if_pos hor]
theorem recL_tail {b : List Int} {n : Nat} (rest : List Lf) (hn : n + need b ≤ 20001) (hb : 1 ≤ b.length) : ∀ (d i : Nat), need b - i = d → i < need b →
    recL (n + i) (decide (i = 0)) (((pagesV n b).drop i).map (Lf.mk 2) ++ rest) = some (b.drop (41 * i), n + need b) := by
  intro d
  induction d using Nat.strongRecOn with
  | _ d ih =>
    intro i hd hi
    have hlen : i < (pagesV n b).length := by rw [pagesV_len]; exact hi
    rw [List.drop_eq_getElem_cons hlen]
    have hget : (pagesV n b)[i] = pgOf b n (n + (b.length - 1) / 41) i i := by simp [pagesV, pgs]
    obtain ⟨hpg, hor, hpos⟩ := pgOf_page (n := n) hi
    rw [hget, hpg, List.map_cons, List.cons_append]
    have hle : ((b.drop (41 * i)).take 41).length ≤ 41 := by simp; omega
    have hgood := page_good (n := ((n + i : Nat) : Int)) (decide (i = 0)) (decide (i + 1 = need b)) (by omega) (by omega) hpos hle hor
    have hc : (Lf.mk 2 (pageV ((n + i : Nat) : Int) (decide (i = 0)) (decide (i + 1 = need b)) ((b.drop (41 * i)).take 41))).is ≠ 0 ∧ good ((n + i : Nat) : Int) (Lf.mk 2 (pageV ((n + i : Nat) : Int) (decide (i = 0)) (decide (i + 1 = need b)) ((b.drop (41 * i)).take 41))).b ∧ decide ((Lf.mk 2 (pageV ((n + i : Nat) : Int) (decide (i = 0)) (decide (i + 1 = need b)) ((b.drop (41 * i)).take 41))).b.getD 4 0 % 2 = 1) = decide (i = 0) := by
      refine ⟨by show (2 : Int) ≠ 0; decide, hgood, ?_⟩
      show decide ((pageV _ _ _ _).getD 4 0 % 2 = 1) = _
      rw [page_get4, flag_first]
    by_cases hlast : i + 1 = need b
    · rw [recL_last hc (by show 2 ≤ (pageV _ _ _ _).getD 4 0; rw [page_get4]; exact of_decide_eq_true (by rw [flag_last]; exact decide_eq_true hlast))]
      show some (partOf (pageV _ _ _ _), _) = _
      rw [page_part _ _ _ hle, List.take_of_length_le (by unfold need at hlast; simp; omega), ← hlast, Nat.add_assoc]
    · rw [recL_more hc (by show ¬ 2 ≤ (pageV _ _ _ _).getD 4 0; rw [page_get4]; exact of_decide_eq_false (by rw [flag_last]; exact decide_eq_false hlast))]
      have := ih (need b - (i + 1)) (by omega) (i + 1) rfl (by omega)
      rw [decide_eq_false (by omega)] at this
      rw [Nat.add_assoc, this]
      show some (partOf (pageV _ _ _ _) ++ _, _) = _
      rw [page_part _ _ _ hle]
      congr 2
      rw [show 41 * (i + 1) = 41 * i + 41 from by omega, ← List.drop_drop, List.take_append_drop]
theorem recL_pages {b : List Int} {n : Nat} (rest : List Lf) (hn : n + need b ≤ 20001) (hb : 1 ≤ b.length) : recL n true ((pagesV n b).map (Lf.mk 2) ++ rest) = some (b, n + need b) := by
  have := recL_tail rest hn hb _ 0 rfl (by unfold need; omega)
  simpa using this

/-! ### many records -/
def usedBy : List (List Int) → Nat
  | [] => 0
  | b :: rs => need b + usedBy rs
def laid : Nat → List (List Int) → List (List Int)
  | _, [] => []
  | n, b :: rs => pagesV n b ++ laid (n + need b) rs
theorem laid_len : ∀ (rs : List (List Int)) (n : Nat), (laid n rs).length = usedBy rs
  | [], _ => rfl
  | b :: rs, n => by rw [laid, List.length_append, pagesV_len, laid_len rs, usedBy]
theorem usedBy_snoc : ∀ (rs : List (List Int)) (b : List Int), usedBy (rs ++ [b]) = usedBy rs + need b
  | [], b => by simp [usedBy]
  | x :: rs, b => by rw [List.cons_append, usedBy, usedBy, usedBy_snoc rs b]; omega
theorem laid_snoc : ∀ (rs : List (List Int)) (n : Nat) (b : List Int), laid n (rs ++ [b]) = laid n rs ++ pagesV (n + usedBy rs) b
  | [], n, b => by simp [laid, usedBy]
  | x :: rs, n, b => by rw [List.cons_append, laid, laid, laid_snoc rs, usedBy, List.append_assoc, Nat.add_assoc]
theorem parse_laid : ∀ (rs : List (List Int)) (pre : List Lf) (rest : List Lf) (n : Nat), pre.length = n → (∀ b ∈ rs, 1 ≤ b.length) → n + usedBy rs ≤ 20000 → recL (n + usedBy rs) true rest = none →
    Parse (pre ++ (laid n rs).map (Lf.mk 2) ++ rest) n rs (n + usedBy rs)
  | [], pre, rest, n, hp, _, _, hr => by
    refine ⟨rfl, ?_⟩
    rw [laid, List.map_nil, List.append_nil, List.drop_left' hp]
    exact hr
  | b :: rs, pre, rest, n, hp, hb, hn, hr => by
    refine ⟨n + need b, ?_, ?_⟩
    · rw [List.append_assoc, List.drop_left' hp, laid, List.map_append, List.append_assoc]
      exact recL_pages _ (by rw [usedBy] at hn; omega) (hb b (by simp))
    · have := parse_laid rs (pre ++ (pagesV n b).map (Lf.mk 2)) rest (n + need b) (by rw [List.length_append, List.length_map, pagesV_len, hp]) (fun x hx => hb x (by simp [hx])) (by rw [usedBy] at hn; omega) (by rw [usedBy] at hr; rw [show n + need b + usedBy rs = n + (need b + usedBy rs) from by omega]; exact hr)
      rw [usedBy, show n + (need b + usedBy rs) = n + need b + usedBy rs from by omega, laid, List.map_append]
      simpa [List.append_assoc] using this

theorem JouAt.lower {w : World} {base base' g j : Nat} {v : Value} {J : Jn} (a : JouAt w base g j v J) (h : base' ≤ base) : JouAt w base' g j v J := ⟨a.head, a.recs.lower h, a.falls, a.used, a.many⟩
/-! ### pads -/
theorem eachL_none' (f : Nat → Lf → Lf) (l : List Lf) (h : ∀ x ∈ l, x.is ≠ 1) : ∀ i, eachL f i l = l := by
  induction l with
  | nil => intro i; rfl
  | cons x l ih =>
    intro i
    rw [eachL, if_neg (h x (by simp)), ih (fun y hy => h y (by simp [hy]))]
theorem recL_blank (n : Nat) (fst : Bool) (k : Nat) : recL n fst (List.replicate k Lf.zero) = none := by
  cases k with
  | zero => rfl
  | succ k =>
    rw [List.replicate_succ]
    exact recL_no (fun h => h.1 rfl)
theorem clL_zero (k m : Nat) : clL (List.replicate k Lf.zero) m k = List.replicate k Lf.zero := by
  unfold clL
  apply List.ext_getElem
  · simp
  · intro i h1 h2
    simp [clr, Lf.zero]
theorem new_dry (n : Int) : (Pd.new n).dry = Pd.new n := by
  unfold Pd.dry Pd.new
  simp only
  rw [eachL_none']
  intro x hx
  rw [List.eq_of_mem_replicate hx]
  decide
theorem new_open (n : Int) : openP (Pd.new n) 0 = Pd.new n := by
  unfold openP
  rw [new_dry]
  unfold Pd.new
  simp only [List.length_replicate]
  rw [clL_zero]
theorem new_parse (n : Int) : Parse (Pd.new n).dry.l 0 [] 0 := by
  rw [new_dry]
  exact ⟨rfl, recL_blank _ _ _⟩
theorem new_at (n : Int) (k : Nat) : ((Pd.new n).at k).is = 0 := by
  unfold Pd.at Pd.new
  simp only [List.getD, List.getElem?_replicate]
  split <;> rfl
end Go.Proofs.Ytdjkkpefljapcaa
