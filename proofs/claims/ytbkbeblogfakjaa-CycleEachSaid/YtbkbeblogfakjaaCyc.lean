/- Plain arithmetic of cycles: their last days, their spans, and in which one a day is: no program in sight. -/
import Derived.Test.YtbkbeblogfakjaaCal
namespace Go.Proofs.Ytbkbeblogfakjaa
namespace Cal

/-- The last day that would be, wherever the calendar ends. -/
noncomputable def lastV (from_ cd : Int) : Int := if from_ - (dateF from_).2.2 + cd - 1 < from_ then from_ - (dateF from_).2.2 + cd - 1 + len (dateF from_).1 (dateF from_).2.1 else from_ - (dateF from_).2.2 + cd - 1
/-- What Last answers. -/
noncomputable def lastR (from_ cd : Int) : Int × Int :=
  if cd < 1 ∨ 28 < cd then (0, 1) else if -135140 ≤ from_ ∧ from_ ≤ 2932896 then (if 2932896 < lastV from_ cd then (0, 10) else (lastV from_ cd, 0)) else (0, 10)

theorem lastR_arg {f cd : Int} (h : cd < 1 ∨ 28 < cd) : lastR f cd = (0, 1) := by unfold lastR; rw [if_pos h]
theorem lastR_out {f cd : Int} (h : ¬ (cd < 1 ∨ 28 < cd)) (h2 : ¬ (-135140 ≤ f ∧ f ≤ 2932896)) : lastR f cd = (0, 10) := by unfold lastR; rw [if_neg h, if_neg h2]
theorem lastR_late {f cd : Int} (h : ¬ (cd < 1 ∨ 28 < cd)) (h2 : -135140 ≤ f ∧ f ≤ 2932896) (h3 : 2932896 < lastV f cd) : lastR f cd = (0, 10) := by unfold lastR; rw [if_neg h, if_pos h2, if_pos h3]
theorem lastR_ok {f cd : Int} (h : ¬ (cd < 1 ∨ 28 < cd)) (h2 : -135140 ≤ f ∧ f ≤ 2932896) (h3 : ¬ 2932896 < lastV f cd) : lastR f cd = (lastV f cd, 0) := by unfold lastR; rw [if_neg h, if_pos h2, if_neg h3]
theorem lastR_inv {f cd l : Int} (h : lastR f cd = (l, 0)) : 1 ≤ cd ∧ cd ≤ 28 ∧ -135140 ≤ f ∧ f ≤ 2932896 ∧ l = lastV f cd ∧ l ≤ 2932896 := by
  unfold lastR at h
  split at h
  · simp at h
  · split at h
    · split at h
      · simp at h
      · simp only [Prod.mk.injEq, and_true] at h
        omega
    · simp at h
theorem lastR_err (f cd : Int) : (lastR f cd).2 = 0 ∨ (lastR f cd).2 = 1 ∨ (lastR f cd).2 = 10 := by
  unfold lastR
  split
  · exact .inr (.inl rfl)
  · split
    · split
      · exact .inr (.inr rfl)
      · exact .inl rfl
    · exact .inr (.inr rfl)

/-- Days behind a date, in its month, and in the next one. -/
theorem day_in {y m d n j : Int} (h : Ok 9999 y m d) (e : num y m d = n) (h1 : 0 ≤ j) (h2 : d + j ≤ len y m) : dateF (n + j) = (y, m, d + j) := by
  refine dateF_eq ⟨h.1, by have := h.2.1; omega, h.2.2.1, h.2.2.2.1, by have := h.2.2.2.2.1; omega, h2⟩ ?_
  rw [← e]
  unfold num
  omega
theorem day_next {y m d n j : Int} (h : Ok 9999 y m d) (e : num y m d = n) (h1 : 1 ≤ j) (h2 : j ≤ 28) : ∃ y' m', dateF (n + (len y m - d) + j) = (y', m', j) ∧ Ok 10000 y' m' j := by
  obtain ⟨a1, a2, a3, a4, a5, a6⟩ := h
  by_cases hm : m < 12
  · have hl := len_lo (y := y) (m := m + 1) (by omega) (by omega)
    have hs := cum_succ (y := y) a3 a4
    have hok : Ok 10000 y (m + 1) j := ⟨a1, by omega, by omega, by omega, h1, by omega⟩
    refine ⟨y, m + 1, dateF_eq hok ?_, hok⟩
    rw [← e]
    unfold num
    omega
  · obtain rfl : m = 12 := by omega
    have hl := len_lo (y := y + 1) (m := 1) (by omega) (by omega)
    have hs := cum_succ (y := y) a3 a4
    have e13 : cum y (12 + 1) = ylen y := cum_13 y
    have hn := ny_succ y
    have h1' := cum_1 (y + 1)
    have hok : Ok 10000 (y + 1) 1 j := ⟨by omega, by omega, by omega, by omega, h1, by omega⟩
    refine ⟨y + 1, 1, dateF_eq hok ?_, hok⟩
    rw [← e]
    unfold num
    omega

theorem lastV_ge {f cd : Int} (h1 : 1 ≤ cd) (h2 : cd ≤ 28) (h3 : -135140 ≤ f) (h4 : f ≤ 2932896) : f ≤ lastV f cd ∧ lastV f cd ≤ f + 30 := by
  obtain ⟨hok, hn⟩ := dateF_ok' h3 h4
  have hl := len_lo (y := (dateF f).1) hok.2.2.1 hok.2.2.2.1
  have a := hok.2.2.2.2.1
  have b := hok.2.2.2.2.2
  unfold lastV
  split
  · omega
  · omega

/-- The day behind a day is the cycle's day of the month just where the cycle ends. -/
theorem day_iff {f cd n : Int} (h1 : 1 ≤ cd) (h2 : cd ≤ 28) (h3 : -135140 ≤ f) (h4 : f ≤ 2932896) (h5 : f ≤ n) (h6 : n ≤ lastV f cd) : (dateF (n + 1)).2.2 = cd ↔ n = lastV f cd := by
  obtain ⟨hok, hn⟩ := dateF_ok' h3 h4
  have hl := len_lo (y := (dateF f).1) hok.2.2.1 hok.2.2.2.1
  unfold lastV at h6 ⊢
  generalize dateF f = D at *
  obtain ⟨y, m, d⟩ := D
  dsimp only at *
  have a := hok.2.2.2.2.1
  have b := hok.2.2.2.2.2
  by_cases hA : f - d + cd - 1 < f
  · rw [if_pos hA] at h6 ⊢
    by_cases hj : d + (n + 1 - f) ≤ len y m
    · have hd := day_in hok hn (j := n + 1 - f) (by omega) hj
      rw [show f + (n + 1 - f) = n + 1 from by omega] at hd
      rw [hd]
      dsimp only
      omega
    · obtain ⟨y', m', hd, _⟩ := day_next hok hn (j := n + 1 - f - (len y m - d)) (by omega) (by omega)
      rw [show f + (len y m - d) + (n + 1 - f - (len y m - d)) = n + 1 from by omega] at hd
      rw [hd]
      dsimp only
      omega
  · rw [if_neg hA] at h6 ⊢
    have hd := day_in hok hn (j := n + 1 - f) (by omega) (by omega)
    rw [show f + (n + 1 - f) = n + 1 from by omega] at hd
    rw [hd]
    dsimp only
    omega
theorem dateF_last : dateF 2932897 = (10000, 1, 1) := dateF_eq ⟨by omega, by omega, by omega, by omega, by omega, by decide⟩ (by decide)

/-! ### spans -/
noncomputable def spanN (cd : Int) : Nat → Int → (Int × Int) × Int
  | 0, f => if (lastR f cd).2 = 0 then ((f, (lastR f cd).1), 0) else ((0, 0), (lastR f cd).2)
  | k + 1, f => if (lastR f cd).2 = 0 then spanN cd k ((lastR f cd).1 + 1) else ((0, 0), (lastR f cd).2)
noncomputable def spanR (start cd n : Int) : (Int × Int) × Int :=
  if (lastR start cd).2 = 0 then (if 1 ≤ n ∧ n ≤ 300 then spanN cd (n - 1).toNat start else ((0, 0), 1)) else ((0, 0), (lastR start cd).2)

/-- The cycles up to the one in which a day is, and whether there is such. -/
noncomputable def findL (cd day : Int) : Nat → Int → List (Int × Int) × Bool
  | 0, _ => ([], false)
  | k + 1, f =>
    if (lastR f cd).2 = 0 then
      (if (lastR f cd).1 < day ∧ k ≠ 0 then ((f, (lastR f cd).1) :: (findL cd day k ((lastR f cd).1 + 1)).1, (findL cd day k ((lastR f cd).1 + 1)).2)
       else ([(f, (lastR f cd).1)], decide (f ≤ day ∧ day ≤ (lastR f cd).1)))
    else ([], false)
noncomputable def ofR (start cd day : Int) : Int × Int :=
  if (lastR start cd).2 = 0 then (if (findL cd day 300 start).2 = true then (((findL cd day 300 start).1.length : Int), 0) else (0, 10)) else (0, (lastR start cd).2)
noncomputable def allR (start cd day : Int) : List (Int × Int) := if (findL cd day 300 start).2 = true then (findL cd day 300 start).1 else []

theorem findL_len (cd day : Int) : ∀ k f, (findL cd day k f).1.length ≤ k := by
  intro k
  induction k with
  | zero => intro f; exact Nat.le_refl _
  | succ k ih =>
    intro f
    rw [findL]
    split
    · split
      · simp only [List.length_cons]
        have := ih ((lastR f cd).1 + 1)
        omega
      · simp
    · simp
theorem findL_pos (cd day : Int) : ∀ k f, (findL cd day k f).2 = true → 1 ≤ (findL cd day k f).1.length := by
  intro k
  cases k with
  | zero => intro f h; cases h
  | succ k =>
    intro f h
    rw [findL] at h ⊢
    split
    · split
      · simp
      · simp
    · rename_i h1
      rw [if_neg h1] at h
      cases h
end Cal
end Go.Proofs.Ytbkbeblogfakjaa
