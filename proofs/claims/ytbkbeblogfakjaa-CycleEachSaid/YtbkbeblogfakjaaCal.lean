/- Plain arithmetic of the calendar: no program in sight. -/
namespace Go.Proofs.Ytbkbeblogfakjaa
namespace Cal

def lp (y : Int) : Bool := decide (y % 4 = 0 ∧ (y % 100 ≠ 0 ∨ y % 400 = 0))
def len (y m : Int) : Int := if m = 2 then (if lp y then 29 else 28) else if m = 4 ∨ m = 6 ∨ m = 9 ∨ m = 11 then 30 else if 1 ≤ m ∧ m ≤ 12 then 31 else 0
def ylen (y : Int) : Int := if lp y then 366 else 365
def ny (y : Int) : Int := -135140 + 365 * (y - 1600) + (y - 1600 + 3) / 4 - (y - 1600 + 99) / 100 + (y - 1600 + 399) / 400
def lb (y : Int) : Int := if lp y then 1 else 0
def cum (y m : Int) : Int :=
  if m ≤ 1 then 0 else if m = 2 then 31 else if m = 3 then 59 + lb y else if m = 4 then 90 + lb y else if m = 5 then 120 + lb y else if m = 6 then 151 + lb y else if m = 7 then 181 + lb y
  else if m = 8 then 212 + lb y else if m = 9 then 243 + lb y else if m = 10 then 273 + lb y else if m = 11 then 304 + lb y else if m = 12 then 334 + lb y else 365 + lb y
def num (y m d : Int) : Int := ny y + cum y m + d - 1
/-- A date of the years 1600 to Y. -/
def Ok (Y y m d : Int) : Prop := 1600 ≤ y ∧ y ≤ Y ∧ 1 ≤ m ∧ m ≤ 12 ∧ 1 ≤ d ∧ d ≤ len y m

theorem lb_01 (y : Int) : 0 ≤ lb y ∧ lb y ≤ 1 := by unfold lb; split <;> omega
theorem ylen_lb (y : Int) : ylen y = 365 + lb y := by unfold ylen lb; split <;> rfl
theorem len_lo {y m : Int} (h1 : 1 ≤ m) (h2 : m ≤ 12) : 28 ≤ len y m ∧ len y m ≤ 31 := by
  unfold len
  repeat' split
  all_goals omega
theorem len_out {y m : Int} (h : ¬ (1 ≤ m ∧ m ≤ 12)) : len y m = 0 := by
  unfold len
  rw [if_neg (by omega), if_neg (by omega), if_neg h]
theorem len_0 (y m : Int) : 0 ≤ len y m ∧ len y m ≤ 31 := by
  unfold len
  repeat' split
  all_goals omega
theorem month_of_len {y m d : Int} (h1 : 1 ≤ d) (h2 : d ≤ len y m) : 1 ≤ m ∧ m ≤ 12 := by
  by_cases h : 1 ≤ m ∧ m ≤ 12
  · exact h
  · rw [len_out h] at h2
    omega

theorem lp_mod (y : Int) : lp y = true ↔ y % 4 = 0 ∧ (y % 100 ≠ 0 ∨ y % 400 = 0) := by unfold lp; simp
theorem ny_succ (y : Int) : ny (y + 1) = ny y + ylen y := by
  unfold ny ylen
  by_cases h : y % 4 = 0 ∧ (y % 100 ≠ 0 ∨ y % 400 = 0)
  · rw [if_pos ((lp_mod y).2 h)]
    omega
  · rw [if_neg (fun e => h ((lp_mod y).1 e))]
    omega
theorem ny_first : ny 1600 = -135140 := by decide
theorem ny_end : ny 10000 = 2932897 := by decide
theorem ny_400 (q : Int) : ny (1600 + q * 400) = -135140 + q * 146097 := by unfold ny; omega

theorem cum_succ {y m : Int} (h1 : 1 ≤ m) (h2 : m ≤ 12) : cum y (m + 1) = cum y m + len y m := by
  have h : m = 1 ∨ m = 2 ∨ m = 3 ∨ m = 4 ∨ m = 5 ∨ m = 6 ∨ m = 7 ∨ m = 8 ∨ m = 9 ∨ m = 10 ∨ m = 11 ∨ m = 12 := by omega
  rcases h with rfl | rfl | rfl | rfl | rfl | rfl | rfl | rfl | rfl | rfl | rfl | rfl
  case inr.inl => simp [cum, len, lb]; split <;> omega
  all_goals simp [cum, len]; try omega
theorem cum_1 (y : Int) : cum y 1 = 0 := rfl
theorem cum_13 (y : Int) : cum y 13 = ylen y := by rw [ylen_lb]; rfl
/-- As many months more. -/
theorem cum_le {y m : Int} (h1 : 1 ≤ m) : ∀ k : Nat, m + k ≤ 13 → cum y m ≤ cum y (m + k) := by
  intro k
  induction k with
  | zero => intro _; simp
  | succ k ih =>
    intro h
    have h3 := ih (by omega)
    have h4 := cum_succ (y := y) (m := m + k) (by omega) (by omega)
    have h5 := len_0 y (m + k)
    have h6 : m + ((k + 1 : Nat) : Int) = m + k + 1 := by omega
    rw [h6]
    omega
theorem cum_lt {y m m' : Int} (h1 : 1 ≤ m) (h2 : m < m') (h3 : m' ≤ 13) : cum y m + len y m ≤ cum y m' := by
  rw [← cum_succ h1 (by omega)]
  have h := cum_le (y := y) (m := m + 1) (by omega) (m' - (m + 1)).toNat (by omega)
  have e : m + 1 + ((m' - (m + 1)).toNat : Int) = m' := by omega
  rwa [e] at h
theorem cum_lo {y m : Int} (h1 : 1 ≤ m) (h2 : m ≤ 13) : 0 ≤ cum y m ∧ cum y m ≤ 366 := by
  have a := cum_le (y := y) (m := 1) (by omega) (m - 1).toNat (by omega)
  have e : 1 + ((m - 1).toNat : Int) = m := by omega
  rw [e, cum_1] at a
  have b := cum_le (y := y) (m := m) h1 (13 - m).toNat (by omega)
  have e2 : m + ((13 - m).toNat : Int) = 13 := by omega
  rw [e2, cum_13, ylen_lb] at b
  have := lb_01 y
  omega
theorem ny_le {y : Int} : ∀ k : Nat, ny y ≤ ny (y + k) := by
  intro k
  induction k with
  | zero => simp
  | succ k ih =>
    have h4 := ny_succ (y + k)
    have h5 := ylen_lb (y + k)
    have h6 := lb_01 (y + k)
    have h7 : y + ((k + 1 : Nat) : Int) = y + k + 1 := by omega
    rw [h7]
    omega
theorem ny_lt {y y' : Int} (h : y < y') : ny y + ylen y ≤ ny y' := by
  rw [← ny_succ]
  have h1 := ny_le (y := y + 1) (y' - (y + 1)).toNat
  have e : y + 1 + ((y' - (y + 1)).toNat : Int) = y' := by omega
  rwa [e] at h1

theorem num_year {Y y m d : Int} (h : Ok Y y m d) : ny y ≤ num y m d ∧ num y m d < ny y + ylen y := by
  obtain ⟨h1, h2, h3, h4, h5, h6⟩ := h
  have a := cum_lo (y := y) h3 (by omega)
  have b := cum_lt (y := y) h3 (show m < 13 by omega) (by omega)
  rw [cum_13] at b
  unfold num
  omega
theorem num_range {y m d : Int} (h : Ok 9999 y m d) : -135140 ≤ num y m d ∧ num y m d ≤ 2932896 := by
  have a := num_year h
  have b : ny 1600 ≤ ny y := by
    have h1 := ny_le (y := 1600) (y - 1600).toNat
    have e : (1600 : Int) + ((y - 1600).toNat : Int) = y := by have := h.1; omega
    rwa [e] at h1
  have c := ny_lt (show y < 10000 by have := h.2.1; omega)
  rw [ny_first] at b
  rw [ny_end] at c
  omega
theorem ok_year {Y y m d : Int} (h : Ok Y y m d) (h1 : num y m d ≤ 2932896) : y ≤ 9999 := by
  have a := num_year h
  by_cases hy : y ≤ 9999
  · exact hy
  · have b := ny_le (y := 10000) (y - 10000).toNat
    have e : (10000 : Int) + ((y - 10000).toNat : Int) = y := by omega
    rw [e, ny_end] at b
    omega
theorem ok_uniq {Y y m d y' m' d' : Int} (h : Ok Y y m d) (h' : Ok Y y' m' d') (e : num y m d = num y' m' d') : y = y' ∧ m = m' ∧ d = d' := by
  have a := num_year h
  have a' := num_year h'
  have hy : y = y' := by
    rcases Int.lt_trichotomy y y' with hl | hl | hl
    · have := ny_lt hl; omega
    · exact hl
    · have := ny_lt hl; omega
  subst hy
  obtain ⟨h1, h2, h3, h4, h5, h6⟩ := h
  obtain ⟨h1', h2', h3', h4', h5', h6'⟩ := h'
  unfold num at e
  have hm : m = m' := by
    rcases Int.lt_trichotomy m m' with hl | hl | hl
    · have := cum_lt (y := y) h3 hl (by omega); omega
    · exact hl
    · have := cum_lt (y := y) h3' hl (by omega); omega
  subst hm
  exact ⟨rfl, rfl, by omega⟩

/-- The day behind a date. -/
def nextD (y m d : Int) : Int × Int × Int := if d < len y m then (y, m, d + 1) else if m < 12 then (y, m + 1, 1) else (y + 1, 1, 1)
theorem next_ok {y m d : Int} (h : Ok 9999 y m d) : Ok 10000 (nextD y m d).1 (nextD y m d).2.1 (nextD y m d).2.2 ∧ num (nextD y m d).1 (nextD y m d).2.1 (nextD y m d).2.2 = num y m d + 1 := by
  obtain ⟨h1, h2, h3, h4, h5, h6⟩ := h
  unfold nextD
  by_cases ha : d < len y m
  · rw [if_pos ha]
    refine ⟨⟨h1, by dsimp only; omega, h3, h4, by dsimp only; omega, by dsimp only; omega⟩, ?_⟩
    unfold num
    dsimp only
    omega
  · rw [if_neg ha]
    by_cases hb : m < 12
    · rw [if_pos hb]
      have hc := cum_succ (y := y) h3 h4
      have hl := len_lo (y := y) (m := m + 1) (by omega) (by omega)
      refine ⟨⟨h1, by dsimp only; omega, by dsimp only; omega, by dsimp only; omega, by dsimp only; omega, by dsimp only; omega⟩, ?_⟩
      unfold num
      dsimp only
      omega
    · rw [if_neg hb]
      obtain rfl : m = 12 := by omega
      have hc := cum_succ (y := y) h3 h4
      have e13 : cum y (12 + 1) = ylen y := cum_13 y
      have hn := ny_succ y
      have h1' := cum_1 (y + 1)
      have hl := len_lo (y := y + 1) (m := 1) (by omega) (by omega)
      refine ⟨⟨by dsimp only; omega, by dsimp only; omega, by dsimp only; omega, by dsimp only; omega, by dsimp only; omega, by dsimp only; omega⟩, ?_⟩
      unfold num
      dsimp only
      omega
theorem ok_ex : ∀ k : Nat, k ≤ 3068037 → ∃ y m d, Ok 10000 y m d ∧ num y m d = -135140 + k := by
  intro k
  induction k with
  | zero => intro _; exact ⟨1600, 1, 1, by unfold Ok; decide, by decide⟩
  | succ k ih =>
    intro hk
    obtain ⟨y, m, d, h, e⟩ := ih (by omega)
    have hy := ok_year h (by omega)
    obtain ⟨a, b⟩ := next_ok (y := y) (m := m) (d := d) ⟨h.1, hy, h.2.2⟩
    exact ⟨_, _, _, a, by rw [b, e]; omega⟩

open Classical in
/-- The date of a number. -/
noncomputable def dateF (n : Int) : Int × Int × Int := if h : ∃ p : Int × Int × Int, Ok 10000 p.1 p.2.1 p.2.2 ∧ num p.1 p.2.1 p.2.2 = n then choose h else (0, 0, 0)
theorem dateF_eq {y m d n : Int} (h : Ok 10000 y m d) (e : num y m d = n) : dateF n = (y, m, d) := by
  have hex : ∃ p : Int × Int × Int, Ok 10000 p.1 p.2.1 p.2.2 ∧ num p.1 p.2.1 p.2.2 = n := ⟨(y, m, d), h, e⟩
  unfold dateF
  rw [dif_pos hex]
  have hs := Classical.choose_spec hex
  generalize Classical.choose hex = p at hs
  obtain ⟨p1, p2, p3⟩ := p
  obtain ⟨rfl, rfl, rfl⟩ := ok_uniq h hs.1 (by rw [e]; exact hs.2.symm)
  rfl
theorem dateF_ok {n : Int} (h1 : -135140 ≤ n) (h2 : n ≤ 2932897) : Ok 10000 (dateF n).1 (dateF n).2.1 (dateF n).2.2 ∧ num (dateF n).1 (dateF n).2.1 (dateF n).2.2 = n := by
  obtain ⟨y, m, d, h, e⟩ := ok_ex (n + 135140).toNat (by omega)
  have e' : num y m d = n := by rw [e]; omega
  rw [dateF_eq h e']
  exact ⟨h, e'⟩
theorem dateF_ok' {n : Int} (h1 : -135140 ≤ n) (h2 : n ≤ 2932896) : Ok 9999 (dateF n).1 (dateF n).2.1 (dateF n).2.2 ∧ num (dateF n).1 (dateF n).2.1 (dateF n).2.2 = n := by
  obtain ⟨h, e⟩ := dateF_ok h1 (by omega)
  exact ⟨⟨h.1, ok_year h (by omega), h.2.2⟩, e⟩
theorem dateF_next {n : Int} (h1 : -135140 ≤ n) (h2 : n ≤ 2932896) : dateF (n + 1) = nextD (dateF n).1 (dateF n).2.1 (dateF n).2.2 := by
  obtain ⟨h, e⟩ := dateF_ok' h1 h2
  obtain ⟨a, b⟩ := next_ok h
  have h3 := dateF_eq a (b.trans (by rw [e]))
  rw [h3]
theorem ok_mono {y m d : Int} (h : Ok 9999 y m d) : Ok 10000 y m d := ⟨h.1, by have := h.2.1; omega, h.2.2⟩

/-- What Number answers. -/
def numR (y m d : Int) : Int × Int := if 1600 ≤ y ∧ y ≤ 9999 ∧ 1 ≤ d ∧ d ≤ len y m then (num y m d, 0) else (0, 10)
theorem numR_ok {y m d : Int} (h : Ok 9999 y m d) : numR y m d = (num y m d, 0) := by
  unfold numR
  rw [if_pos ⟨h.1, h.2.1, h.2.2.2.2.1, h.2.2.2.2.2⟩]
theorem numR_not {y m d : Int} (h : ¬ (1600 ≤ y ∧ y ≤ 9999 ∧ 1 ≤ d ∧ d ≤ len y m)) : numR y m d = (0, 10) := by
  unfold numR
  rw [if_neg h]
theorem ok_of {y m d : Int} (h : 1600 ≤ y ∧ y ≤ 9999 ∧ 1 ≤ d ∧ d ≤ len y m) : Ok 9999 y m d := by
  have := month_of_len h.2.2.1 h.2.2.2
  exact ⟨h.1, h.2.1, this.1, this.2, h.2.2.1, h.2.2.2⟩
/-- What Date answers. -/
noncomputable def dateR (n : Int) : (Int × Int × Int) × Int := if -135140 ≤ n ∧ n ≤ 2932896 then (dateF n, 0) else ((0, 0, 0), 10)
theorem dateR_in {n : Int} (h1 : -135140 ≤ n) (h2 : n ≤ 2932896) : dateR n = (dateF n, 0) := by unfold dateR; rw [if_pos ⟨h1, h2⟩]
theorem dateR_out {n : Int} (h : ¬ (-135140 ≤ n ∧ n ≤ 2932896)) : dateR n = ((0, 0, 0), 10) := by unfold dateR; rw [if_neg h]

def wday (n : Int) : Int := (n.tmod 7 + 11) % 7
theorem tmod7 (n : Int) : ∃ r q : Int, n.tmod 7 = r ∧ n = 7 * q + r ∧ -6 ≤ r ∧ r ≤ 6 := by
  have h1 := Int.mul_tdiv_add_tmod n 7
  have h2 := Int.tmod_lt_of_pos n (show (0 : Int) < 7 by omega)
  have h3 : -7 < n.tmod 7 := by
    have := Int.lt_tmod_of_pos n (show (0 : Int) < 7 by omega)
    omega
  exact ⟨n.tmod 7, n.tdiv 7, rfl, by omega, by omega, by omega⟩
theorem wday_mod (n : Int) : wday n = (n + 4) % 7 := by
  obtain ⟨r, q, h1, h2, h3, h4⟩ := tmod7 n
  unfold wday
  rw [h1]
  omega
end Cal
end Go.Proofs.Ytbkbeblogfakjaa
