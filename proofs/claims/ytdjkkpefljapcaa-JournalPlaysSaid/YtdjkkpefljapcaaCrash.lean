/- A fall, and what is there when the journal is opened anew: the records that were added, and the one that was under way just if all its leaves stayed whole. -/
import Derived.Test.YtdjkkpefljapcaaJFull
namespace Go.Proofs.Ytdjkkpefljapcaa
open Go.RowKit
set_option linter.unusedVariables false
set_option linter.unusedSimpArgs false

/-- Wet leaves, dropped. -/
def tornL (keep : List Int) : Nat → List (List Int) → List Lf
  | _, [] => []
  | i, pg :: ps => keptL ⟨1, pg⟩ (keepAt keep i) :: tornL keep (i + 1) ps
theorem tornL_len (keep : List Int) : ∀ (ps : List (List Int)) (i : Nat), (tornL keep i ps).length = ps.length
  | [], _ => rfl
  | x :: ps, i => by rw [tornL, List.length_cons, tornL_len keep ps, List.length_cons]
theorem eachL_torn (keep : List Int) : ∀ (ps : List (List Int)) (i : Nat), eachL (fun i x => keptL x (keepAt keep i)) i (ps.map (Lf.mk 1)) = tornL keep i ps
  | [], _ => rfl
  | x :: ps, i => by rw [List.map_cons, eachL, if_pos rfl, tornL, eachL_torn keep ps]
theorem kept_dry (x : Lf) (n : Int) : (keptL x n).is ≠ 1 := by
  unfold keptL
  split
  · decide
  · show ¬ (2 : Int) = 1
    decide
theorem tornL_dry (keep : List Int) : ∀ (ps : List (List Int)) (i : Nat), ∀ x ∈ tornL keep i ps, x.is ≠ 1
  | [], _, x, hx => by cases hx
  | y :: ps, i, x, hx => by
    rw [tornL] at hx
    rcases List.mem_cons.1 hx with rfl | hx
    · exact kept_dry _ _
    · exact tornL_dry keep ps (i + 1) x hx
theorem kept_whole {pg : List Int} {n : Int} (hl : pg.length = 48) (h : 48 ≤ n) : keptL ⟨1, pg⟩ n = ⟨2, pg⟩ := by
  unfold keptL
  rw [if_neg (by omega), List.take_of_length_le (by show pg.length ≤ n.toNat; omega), show 48 - n.toNat = 0 from by omega]
  simp
/-- A leaf that lost bytes says nothing. -/
theorem kept_torn {pg : List Int} {n : Int} (hl : pg.length = 48) (h : ¬ 48 ≤ n) (m : Int) : ¬ ((keptL ⟨1, pg⟩ n).is ≠ 0 ∧ good m (keptL ⟨1, pg⟩ n).b) := by
  rintro ⟨h1, h2⟩
  unfold keptL at h1 h2
  by_cases hn : n < 1
  · rw [if_pos hn] at h1
    exact h1 rfl
  · rw [if_neg hn] at h2
    have := h2.1.2.2.1
    simp only at this
    rw [List.getD, List.getElem?_append_right (by simp; omega), List.getElem?_replicate] at this
    split at this
    · simp at this
    · rename_i hh
      simp at hh
      omega

open Classical in
theorem recL_torn {b : List Int} {n : Nat} (keep : List Int) (z : Nat) (hn : n + need b ≤ 20001) (hb : 1 ≤ b.length) : ∀ (q i : Nat), i < need b → i + q ≤ need b →
    recL (n + i) (decide (i = 0)) (tornL keep i (((pagesV n b).drop i).take q) ++ List.replicate z Lf.zero) = if need b ≤ i + q ∧ ∀ t, i ≤ t → t < need b → 48 ≤ keepAt keep t then some (b.drop (41 * i), n + need b) else none := by
  intro q
  induction q with
  | zero =>
    intro i hi _
    rw [List.take_zero, tornL, List.nil_append, recL_blank, if_neg (by omega)]
  | succ q ih =>
    intro i hi hq
    have hlen : i < (pagesV n b).length := by rw [pagesV_len]; exact hi
    have hget : (pagesV n b)[i] = pgOf b n (n + (b.length - 1) / 41) i i := by simp [pagesV, pgs]
    obtain ⟨hpg, hor, hpos⟩ := pgOf_page (n := n) hi
    have hle : ((b.drop (41 * i)).take 41).length ≤ 41 := by simp; omega
    have hgood := page_good (n := ((n + i : Nat) : Int)) (decide (i = 0)) (decide (i + 1 = need b)) (by omega) (by omega) hpos hle hor
    have hpl : (pgOf b n (n + (b.length - 1) / 41) i i).length = 48 := pgOf_len _ _ _ _ _
    rw [List.drop_eq_getElem_cons hlen, List.take_succ_cons, tornL, hget, List.cons_append]
    by_cases hk : 48 ≤ keepAt keep i
    · rw [kept_whole hpl hk, hpg]
      have hc : (Lf.mk 2 (pageV ((n + i : Nat) : Int) (decide (i = 0)) (decide (i + 1 = need b)) ((b.drop (41 * i)).take 41))).is ≠ 0 ∧ good ((n + i : Nat) : Int) (Lf.mk 2 (pageV ((n + i : Nat) : Int) (decide (i = 0)) (decide (i + 1 = need b)) ((b.drop (41 * i)).take 41))).b ∧ decide ((Lf.mk 2 (pageV ((n + i : Nat) : Int) (decide (i = 0)) (decide (i + 1 = need b)) ((b.drop (41 * i)).take 41))).b.getD 4 0 % 2 = 1) = decide (i = 0) := by
        refine ⟨by show (2 : Int) ≠ 0; decide, hgood, ?_⟩
        show decide ((pageV _ _ _ _).getD 4 0 % 2 = 1) = _
        rw [page_get4, flag_first]
      by_cases hlast : i + 1 = need b
      · rw [recL_last hc (by show 2 ≤ (pageV _ _ _ _).getD 4 0; rw [page_get4]; exact of_decide_eq_true (by rw [flag_last]; exact decide_eq_true hlast))]
        show some (partOf (pageV _ _ _ _), _) = _
        rw [page_part _ _ _ hle, List.take_of_length_le (by unfold need at hlast; simp; omega), ← hlast, Nat.add_assoc, if_pos]
        refine ⟨by omega, fun t h1 h2 => ?_⟩
        obtain rfl : t = i := by omega
        exact hk
      · rw [recL_more hc (by show ¬ 2 ≤ (pageV _ _ _ _).getD 4 0; rw [page_get4]; exact of_decide_eq_false (by rw [flag_last]; exact decide_eq_false hlast))]
        have := ih (i + 1) (by omega) (by omega)
        rw [decide_eq_false (by omega)] at this
        rw [Nat.add_assoc, this]
        show Option.map (fun y : List Int × Nat => (partOf (pageV _ _ _ _) ++ y.1, y.2)) _ = _
        rw [page_part _ _ _ hle]
        by_cases hcond : need b ≤ i + 1 + q ∧ ∀ t, i + 1 ≤ t → t < need b → 48 ≤ keepAt keep t
        · rw [if_pos hcond, if_pos]
          · show some (_ ++ _, _) = _
            congr 2
            rw [show 41 * (i + 1) = 41 * i + 41 from by omega, ← List.drop_drop, List.take_append_drop]
          · refine ⟨by omega, fun t h1 h2 => ?_⟩
            by_cases ht : t = i
            · subst ht; exact hk
            · exact hcond.2 t (by omega) h2
        · rw [if_neg hcond, if_neg]
          · rfl
          · rintro ⟨h1, h2⟩
            exact hcond ⟨by omega, fun t h3 h4 => h2 t (by omega) h4⟩
    · rw [recL_no (fun hh => kept_torn hpl hk _ ⟨hh.1, hh.2.1⟩), if_neg]
      rintro ⟨_, h2⟩
      exact hk (h2 i (Nat.le_refl _) hi)

/-- Did all stay whole? -/
def allWhole (keep : List Int) (k : Nat) (b : List Int) : Prop := need b ≤ k ∧ ∀ t, t < need b → 48 ≤ keepAt keep t

/-- A pad that is mended: records, dry leaves of whatever kind behind them, blank ones. -/
def crashP (N : Nat) (F : Int) (rs : List (List Int)) (T : List Lf) : Pd := ⟨(laid 0 rs).map (Lf.mk 2) ++ T ++ List.replicate (N - usedBy rs - T.length) Lf.zero, 0, F, false⟩
theorem crash_len {N : Nat} {F : Int} {rs : List (List Int)} {T : List Lf} (h : usedBy rs + T.length ≤ N) : (crashP N F rs T).l.length = N := by
  simp [crashP, laid_len]
  omega
theorem crash_dry {N : Nat} {F : Int} {rs : List (List Int)} {T : List Lf} (hT : ∀ x ∈ T, x.is ≠ 1) : (crashP N F rs T).dry = crashP N F rs T := by
  unfold Pd.dry crashP
  simp only
  rw [eachL_none']
  intro x hx
  rcases List.mem_append.1 hx with hx | hx
  · rcases List.mem_append.1 hx with hx | hx
    · obtain ⟨y, _, rfl⟩ := List.mem_map.1 hx
      show ¬ (2 : Int) = 1
      decide
    · exact hT x hx
  · rw [List.eq_of_mem_replicate hx]
    decide
theorem clL_app (A B : List Lf) (m : Nat) (hm : A.length = m) : clL (A ++ B) m (A ++ B).length = A ++ B.map clr := by
  subst hm
  unfold clL
  apply List.ext_getElem
  · simp
  · intro i h1 h2
    simp only [List.getElem_mapIdx]
    have hl : i < (A ++ B).length := by simpa using h1
    by_cases hi : i < A.length
    · rw [if_neg (by omega), List.getElem_append_left hi, List.getElem_append_left hi]
    · rw [if_pos ⟨by omega, hl⟩, List.getElem_append_right (by omega), List.getElem_append_right (by omega), List.getElem_map]
theorem clr_rep (k : Nat) : (List.replicate k Lf.zero).map clr = List.replicate k Lf.zero := by
  rw [List.map_replicate]
  rfl
/-- No leaf of these is wet, and those that are blank are zero. -/
def calm (T : List Lf) : Prop := ∀ x ∈ T, clr x = Lf.zero
theorem tornL_calm (keep : List Int) : ∀ (ps : List (List Int)) (i : Nat), calm (tornL keep i ps)
  | [], _ => fun x hx => by cases hx
  | y :: ps, i => by
    intro x hx
    rw [tornL] at hx
    rcases List.mem_cons.1 hx with rfl | hx
    · unfold keptL clr
      split
      · rfl
      · rfl
    · exact tornL_calm keep ps (i + 1) x hx
theorem calm_map {T : List Lf} (h : calm T) : T.map clr = List.replicate T.length Lf.zero := by
  induction T with
  | nil => rfl
  | cons x T ih => rw [List.map_cons, h x (by simp), ih (fun y hy => h y (by simp [hy])), List.length_cons, List.replicate_succ]

section
variable {N k : Nat} {F : Int} {rs : List (List Int)} {b : List Int} {keep : List Int}
/-- It is opened: the record under way is not there. -/
theorem reopen_without (hfit : usedBy rs + need b ≤ N) (hN : N ≤ 20000) (hrs : ∀ b ∈ rs, 1 ≤ b.length) (hb : 1 ≤ b.length) (hk : k ≤ need b) (hno : ¬ allWhole keep k b) :
    Parse (crashP N F rs (tornL keep 0 ((pagesV (usedBy rs) b).take k))).dry.l 0 rs (usedBy rs) ∧ openP (crashP N F rs (tornL keep 0 ((pagesV (usedBy rs) b).take k))) (usedBy rs) = padOf N F 0 rs := by
  have hd := crash_dry (N := N) (F := F) (rs := rs) (tornL_dry keep ((pagesV (usedBy rs) b).take k) 0)
  have hl : (tornL keep 0 ((pagesV (usedBy rs) b).take k)).length = k := by rw [tornL_len, List.length_take, pagesV_len]; omega
  have hn1 : 0 < need b := by unfold need; omega
  have hrec := recL_torn (n := usedBy rs) keep (N - usedBy rs - k) (by omega) hb k 0 hn1 (by omega)
  rw [if_neg (by
    rintro ⟨h1, h2⟩
    exact hno ⟨by omega, fun t h => h2 t (Nat.zero_le _) h⟩), decide_eq_true rfl, Nat.add_zero, List.drop_zero] at hrec
  constructor
  · rw [hd]
    unfold crashP
    simp only
    rw [hl]
    have := parse_laid rs [] (tornL keep 0 ((pagesV (usedBy rs) b).take k) ++ List.replicate (N - usedBy rs - k) Lf.zero) 0 rfl hrs (by omega) (by rw [Nat.zero_add]; exact hrec)
    rw [Nat.zero_add, List.nil_append] at this
    rw [List.append_assoc]
    exact this
  · unfold openP
    rw [hd]
    unfold crashP padOf
    simp only
    rw [List.append_assoc, clL_app _ _ _ (by rw [List.length_map, laid_len]), List.map_append, calm_map (tornL_calm _ _ _), clr_rep, hl, List.replicate_append_replicate, show k + (N - usedBy rs - k) = N - usedBy rs from by omega]
/-- It is opened: the record under way is there. -/
theorem reopen_with (hfit : usedBy rs + need b ≤ N) (hN : N ≤ 20000) (hrs : ∀ b ∈ rs, 1 ≤ b.length) (hb : 1 ≤ b.length) (hk : k ≤ need b) (hyes : allWhole keep k b) :
    Parse (crashP N F rs (tornL keep 0 ((pagesV (usedBy rs) b).take k))).dry.l 0 (rs ++ [b]) (usedBy rs + need b) ∧ openP (crashP N F rs (tornL keep 0 ((pagesV (usedBy rs) b).take k))) (usedBy rs + need b) = padOf N F 0 (rs ++ [b]) := by
  have hkn : k = need b := Nat.le_antisymm hk hyes.1
  have hd := crash_dry (N := N) (F := F) (rs := rs) (tornL_dry keep ((pagesV (usedBy rs) b).take k) 0)
  have htk : (pagesV (usedBy rs) b).take k = pagesV (usedBy rs) b := List.take_of_length_le (by rw [pagesV_len]; omega)
  have hall : ∀ (ps : List (List Int)) (i : Nat), (∀ pg ∈ ps, pg.length = 48) → (∀ t, i ≤ t → t < i + ps.length → 48 ≤ keepAt keep t) → tornL keep i ps = ps.map (Lf.mk 2) := by
    intro ps
    induction ps with
    | nil => intro i _ _; rfl
    | cons x ps ih =>
      intro i h1 h2
      rw [tornL, kept_whole (h1 x (by simp)) (h2 i (Nat.le_refl _) (by simp)), ih (i + 1) (fun y hy => h1 y (by simp [hy])) (fun t h3 h4 => h2 t (by omega) (by simp; omega)), List.map_cons]
  have hT : tornL keep 0 ((pagesV (usedBy rs) b).take k) = (pagesV (usedBy rs) b).map (Lf.mk 2) := by
    rw [htk]
    refine hall _ 0 ?_ (fun t _ h => hyes.2 t (by rw [pagesV_len] at h; omega))
    intro pg hpg
    unfold pagesV pgs at hpg
    obtain ⟨i, hi, e⟩ := List.mem_mapIdx.1 hpg
    rw [← e]
    exact pgOf_len _ _ _ _ _
  have hlist : (crashP N F rs (tornL keep 0 ((pagesV (usedBy rs) b).take k))).l = (laid 0 (rs ++ [b])).map (Lf.mk 2) ++ List.replicate (N - usedBy (rs ++ [b])) Lf.zero := by
    rw [hT]
    unfold crashP
    simp only
    rw [laid_snoc, usedBy_snoc, List.map_append, Nat.zero_add, List.length_map, pagesV_len, Nat.sub_sub]
  constructor
  · rw [hd, hlist]
    have := parse_laid (rs ++ [b]) [] (List.replicate (N - usedBy (rs ++ [b])) Lf.zero) 0 rfl (by
      intro x hx
      rcases List.mem_append.1 hx with hx | hx
      · exact hrs x hx
      · rw [List.mem_singleton] at hx; subst hx; exact hb) (by rw [usedBy_snoc]; omega) (recL_blank _ _ _)
    rw [Nat.zero_add, List.nil_append, usedBy_snoc] at this
    rw [usedBy_snoc]
    exact this
  · unfold openP
    rw [hd, hlist]
    unfold crashP padOf
    simp only
    rw [clL_app _ _ _ (by rw [List.length_map, laid_len, usedBy_snoc]), clr_rep]
/-- It is opened where nothing was under way. -/
theorem reopen_plain (hfit : usedBy rs ≤ N) (hN : N ≤ 20000) (hrs : ∀ b ∈ rs, 1 ≤ b.length) : Parse (padOf N F 0 rs).dry.l 0 rs (usedBy rs) ∧ openP (padOf N F 0 rs) (usedBy rs) = padOf N F 0 rs := by
  have e : padOf N F 0 rs = crashP N F rs [] := by unfold padOf crashP; simp
  have hd : (padOf N F 0 rs).dry = padOf N F 0 rs := by rw [e]; exact crash_dry (fun x hx => by cases hx)
  constructor
  · rw [hd]
    have := parse_laid rs [] (List.replicate (N - usedBy rs) Lf.zero) 0 rfl hrs (by omega) (recL_blank _ _ _)
    rw [Nat.zero_add, List.nil_append] at this
    exact this
  · unfold openP
    rw [hd]
    unfold padOf
    simp only
    rw [clL_app _ _ _ (by rw [List.length_map, laid_len]), clr_rep]

/-- The pad after a fall, dropped and mended. -/
theorem fall_drop {s : Int} (hfit : usedBy rs + need b ≤ N) (hk : k ≤ need b) : ({ (hitP (padOf N F s rs) (usedBy rs) ((pagesV (usedBy rs) b).take k)).drop keep with snag := 0 } : Pd).mend = crashP N (F + 1) rs (tornL keep 0 ((pagesV (usedBy rs) b).take k)) := by
  have hl : ((pagesV (usedBy rs) b).take k).length = k := by rw [List.length_take, pagesV_len]; omega
  have hlay := padOf_lay (N := N) (F := F) (s := s) (rs := rs) (ps := (pagesV (usedBy rs) b).take k) (by rw [hl]; omega)
  have h1 : eachL (fun i x => keptL x (keepAt keep i)) 0 (layL (padOf N F s rs).l (usedBy rs) ((pagesV (usedBy rs) b).take k)) = (laid 0 rs).map (Lf.mk 2) ++ tornL keep 0 ((pagesV (usedBy rs) b).take k) ++ List.replicate (N - usedBy rs - k) Lf.zero := by
    rw [hlay, eachL_append, eachL_append, eachL_dry2, eachL_zero, wetN_dry, Nat.add_zero, eachL_torn, hl]
  show (⟨eachL (fun _ _ => Lf.zero) 0 (eachL (fun i x => keptL x (keepAt keep i)) 0 (layL (padOf N F s rs).l (usedBy rs) ((pagesV (usedBy rs) b).take k))), 0, F + 1, false⟩ : Pd) = _
  rw [h1, eachL_none']
  · unfold crashP
    rw [tornL_len, hl]
  · intro x hx
    rcases List.mem_append.1 hx with hx | hx
    · rcases List.mem_append.1 hx with hx | hx
      · obtain ⟨y, _, rfl⟩ := List.mem_map.1 hx
        show ¬ (2 : Int) = 1
        decide
      · exact tornL_dry _ _ _ x hx
    · rw [List.eq_of_mem_replicate hx]
      decide
theorem eachL_wipe (ps : List (List Int)) : ∀ i, eachL (fun _ _ => Lf.zero) i (ps.map (Lf.mk 1)) = List.replicate ps.length Lf.zero := by
  induction ps with
  | nil => intro i; rfl
  | cons x ps ih => intro i; rw [List.map_cons, eachL, if_pos rfl, ih, List.length_cons, List.replicate_succ]
/-- .. mended, without being dropped. -/
theorem fall_mend {s : Int} (hfit : usedBy rs + need b ≤ N) (hk : k ≤ need b) : ({ hitP (padOf N F s rs) (usedBy rs) ((pagesV (usedBy rs) b).take k) with snag := 0 } : Pd).mend = padOf N (F + 1) 0 rs := by
  have hl : ((pagesV (usedBy rs) b).take k).length = k := by rw [List.length_take, pagesV_len]; omega
  have hlay := padOf_lay (N := N) (F := F) (s := s) (rs := rs) (ps := (pagesV (usedBy rs) b).take k) (by rw [hl]; omega)
  show (⟨eachL (fun _ _ => Lf.zero) 0 (layL (padOf N F s rs).l (usedBy rs) ((pagesV (usedBy rs) b).take k)), 0, F + 1, false⟩ : Pd) = _
  rw [hlay, eachL_append, eachL_append, eachL_dry2, eachL_zero, eachL_wipe, hl]
  unfold padOf
  rw [List.append_assoc, List.replicate_append_replicate, show k + (N - usedBy rs - k) = N - usedBy rs from by omega]
/-- .. a pad that is up, dropped and mended. -/
theorem up_drop {s : Int} : ({ (padOf N F s rs).drop keep with snag := 0 } : Pd).mend = padOf N (F + 1) 0 rs := by
  show (⟨eachL (fun _ _ => Lf.zero) 0 (eachL (fun i x => keptL x (keepAt keep i)) 0 (padOf N F s rs).l), 0, F + 1, false⟩ : Pd) = _
  have h1 : ∀ x ∈ (padOf N F s rs).l, x.is ≠ 1 := by
    unfold padOf
    intro x hx
    rcases List.mem_append.1 hx with hx | hx
    · obtain ⟨y, _, rfl⟩ := List.mem_map.1 hx
      show ¬ (2 : Int) = 1
      decide
    · rw [List.eq_of_mem_replicate hx]
      decide
  rw [eachL_none' _ _ h1, eachL_none' _ _ h1]
  rfl
theorem up_mend {s : Int} : ({ padOf N F s rs with snag := 0 } : Pd).mend = padOf N F 0 rs := rfl
end
end Go.Proofs.Ytdjkkpefljapcaa
