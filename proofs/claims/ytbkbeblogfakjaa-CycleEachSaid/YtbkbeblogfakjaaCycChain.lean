/- Plain laws of the cycles from a day on: they stand one behind the other. -/
import Derived.Test.YtbkbeblogfakjaaCycFirst
import Derived.Test.YtbkbeblogfakjaaCycRefAll
namespace Go.Proofs.Ytbkbeblogfakjaa
namespace Cal

/-- Cycles one behind the other, from f on. -/
def chain (c : Int) : Int → List (Int × Int) → Prop
  | _, [] => True
  | f, p :: r => p.1 = f ∧ lastR f c = (p.2, 0) ∧ chain c (p.2 + 1) r

theorem findL_chain (c d : Int) : ∀ m f, chain c f (findL c d m f).1 := by
  intro m
  induction m with
  | zero => intro f; exact trivial
  | succ m ih =>
    intro f
    generalize hL : lastR f c = L
    obtain ⟨v, er⟩ := L
    by_cases he : er = 0
    · subst he
      by_cases h2 : v < d ∧ m ≠ 0
      · rw [findL_more m hL h2.1 h2.2]
        exact ⟨rfl, hL, ih _⟩
      · rw [findL_end m hL h2]
        exact ⟨rfl, hL, trivial⟩
    · rw [findL_err m hL he]
      exact trivial

theorem chain_at {c : Int} : ∀ (l : List (Int × Int)) (f : Int) (k : Nat), chain c f l → k < l.length → lastR (l.getD k (0, 0)).1 c = ((l.getD k (0, 0)).2, 0) := by
  intro l
  induction l with
  | nil => intro f k _ h; simp at h
  | cons p r ih =>
    intro f k h hk
    obtain ⟨h1, h2, h3⟩ := h
    cases k with
    | zero => simp only [List.getD_cons_zero]; rw [h1]; exact h2
    | succ k => simp only [List.getD_cons_succ]; exact ih _ k h3 (by simp at hk; omega)
theorem chain_next {c : Int} : ∀ (l : List (Int × Int)) (f : Int) (k : Nat), chain c f l → k + 1 < l.length → (l.getD (k + 1) (0, 0)).1 = (l.getD k (0, 0)).2 + 1 := by
  intro l
  induction l with
  | nil => intro f k _ h; simp at h
  | cons p r ih =>
    intro f k h hk
    obtain ⟨h1, h2, h3⟩ := h
    cases k with
    | zero =>
      cases r with
      | nil => simp at hk
      | cons q r => simp only [List.getD_cons_succ, List.getD_cons_zero]; exact h3.1
    | succ k => simp only [List.getD_cons_succ]; exact ih _ k h3 (by simp at hk; omega)

/-- The cycle's day: a cycle that begins on it has 28 to 31 days. -/
theorem lastV_full {f c : Int} (h3 : -135140 ≤ f) (h4 : f ≤ 2932896) (hd : (dateF f).2.2 = c) : f + 27 ≤ lastV f c ∧ lastV f c ≤ f + 30 := by
  obtain ⟨hok, hn⟩ := dateF_ok' h3 h4
  have hl := len_lo (y := (dateF f).1) hok.2.2.1 hok.2.2.2.1
  have hlv : lastV f c = if f - (dateF f).2.2 + c - 1 < f then f - (dateF f).2.2 + c - 1 + len (dateF f).1 (dateF f).2.1 else f - (dateF f).2.2 + c - 1 := rfl
  rw [hd, if_pos (by omega)] at hlv
  omega
theorem next_day {f c v : Int} (h : lastR f c = (v, 0)) : (dateF (v + 1)).2.2 = c := by
  obtain ⟨y1, y2, y3, y4, y5, y6⟩ := lastR_inv h
  obtain ⟨y7, y8⟩ := lastV_ge (f := f) (cd := c) y1 y2 y3 y4
  exact (day_iff (f := f) (n := v) y1 y2 y3 y4 (by omega) (by omega)).2 y5

/-- The last one of those found is the one with the day, and it is the span of that number. -/
theorem findL_last {c d : Int} : ∀ m f, (findL c d m f).2 = true → ∃ k, (findL c d m f).1.length = k + 1 ∧ ((findL c d m f).1.getD k (0, 0)).1 ≤ d ∧ d ≤ ((findL c d m f).1.getD k (0, 0)).2 ∧ spanN c k f = ((findL c d m f).1.getD k (0, 0), 0) := by
  intro m
  induction m with
  | zero => intro f h; cases h
  | succ m ih =>
    intro f h
    generalize hL : lastR f c = L
    obtain ⟨v, er⟩ := L
    by_cases he : er = 0
    · subst he
      by_cases h2 : v < d ∧ m ≠ 0
      · rw [findL_more m hL h2.1 h2.2] at h ⊢
        obtain ⟨k, k1, k2, k3, k4⟩ := ih _ h
        refine ⟨k + 1, by simp [k1], by simpa using k2, by simpa using k3, ?_⟩
        rw [spanN, hL, if_pos rfl]
        simpa using k4
      · rw [findL_end m hL h2] at h ⊢
        simp only [decide_eq_true_eq] at h
        refine ⟨0, rfl, by simpa using h.1, by simpa using h.2, ?_⟩
        rw [spanN, hL, if_pos rfl]
        rfl
    · rw [findL_err m hL he] at h
      cases h

theorem findL_found {c d : Int} (h1 : 1 ≤ c) (h2 : c ≤ 28) (hd2 : d + 31 ≤ 2932896) : ∀ (m : Nat) (f : Int), -135140 ≤ f → f ≤ d → (dateF f).2.2 = c → d - f < 28 * (m + 1 : Int) → (findL c d (m + 1) f).2 = true := by
  intro m
  induction m with
  | zero =>
    intro f h3 h4 h5 h6
    obtain ⟨a, _, _⟩ := lastR_near (f := f) (c := c) h1 h2 h3 (by omega)
    have b := lastV_full (f := f) h3 (by omega) h5
    rw [findL_end 0 a (by omega)]
    simp
    omega
  | succ m ih =>
    intro f h3 h4 h5 h6
    obtain ⟨a, _, _⟩ := lastR_near (f := f) (c := c) h1 h2 h3 (by omega)
    have b := lastV_full (f := f) h3 (by omega) h5
    by_cases hv : lastV f c < d
    · rw [findL_more (m + 1) a hv (by omega)]
      exact ih _ (by omega) (by omega) (next_day a) (by push_cast at h6 ⊢; omega)
    · rw [findL_end (m + 1) a (by omega)]
      simp
      omega
theorem findL_found' {c d f : Int} (h1 : 1 ≤ c) (h2 : c ≤ 28) (h3 : -135140 ≤ f) (h4 : f ≤ d) (h5 : d ≤ f + 2000) (hd2 : d + 31 ≤ 2932896) : (findL c d 300 f).2 = true := by
  obtain ⟨a, b, _⟩ := lastR_near (f := f) (c := c) h1 h2 h3 (by omega)
  by_cases hv : lastV f c < d
  · rw [findL_more 299 a hv (by omega)]
    exact findL_found h1 h2 hd2 298 _ (by omega) (by omega) (next_day a) (by omega)
  · rw [findL_end 299 a (by omega)]
    simp
    omega
end Cal
end Go.Proofs.Ytbkbeblogfakjaa
