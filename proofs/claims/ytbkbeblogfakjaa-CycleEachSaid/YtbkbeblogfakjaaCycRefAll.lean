/- The contracts of the document's All, and of Plain and Same at spans. -/
import Derived.Test.YtbkbeblogfakjaaCycRefOf
namespace Go.Proofs.Ytbkbeblogfakjaa
open Go.RowKit
set_option linter.unusedVariables false
set_option linter.unusedSimpArgs false

theorem Cal.findL_cons {c d f : Int} {m : Nat} {Q : List (Int × Int)} (h : Q = (Cal.findL c d (m + 1) f).1) (hq : Q ≠ []) : ∃ v Q', Cal.lastR f c = (v, 0) ∧ Q = (f, v) :: Q' ∧ (Q' ≠ [] → Q' = (Cal.findL c d m (v + 1)).1) := by
  generalize hL : Cal.lastR f c = L
  obtain ⟨v, er⟩ := L
  by_cases he : er = 0
  · subst he
    by_cases h2 : v < d ∧ m ≠ 0
    · rw [Cal.findL_more m hL h2.1 h2.2] at h
      exact ⟨v, _, rfl, h, fun _ => rfl⟩
    · rw [Cal.findL_end m hL h2] at h
      exact ⟨v, [], rfl, h, fun h => absurd rfl h⟩
  · rw [Cal.findL_err m hL he] at h
    exact absurd h hq

theorem Cal.ofR_inv (s c d : Int) : ((Cal.ofR s c d).2 ≠ 0 ∧ Cal.allR s c d = []) ∨ (Cal.ofR s c d = (((Cal.allR s c d).length : Int), 0) ∧ Cal.allR s c d = (Cal.findL c d 300 s).1 ∧ 1 ≤ (Cal.allR s c d).length ∧ (Cal.allR s c d).length ≤ 300) := by
  generalize hL : Cal.lastR s c = L
  obtain ⟨v, er⟩ := L
  by_cases he : er = 0
  · subst he
    cases hb : (Cal.findL c d 300 s).2 with
    | false => exact .inl ⟨by rw [Cal.ofR_no hL hb]; decide, Cal.allR_no hb⟩
    | true =>
      right
      rw [Cal.ofR_in hL hb, Cal.allR_in hb]
      exact ⟨rfl, rfl, Cal.findL_pos _ _ _ _ hb, Cal.findL_len _ _ _ _⟩
  · left
    rw [Cal.ofR_last hL he, Cal.allR_no (by rw [Cal.findL_err 299 hL he])]
    exact ⟨he, rfl⟩

set_option maxRecDepth 100000 in
set_option maxHeartbeats 2000000 in
theorem refAll_any (s c day : Int) (w : World) : Calls Try.prog 36 #[.int .i64 s, .int .i64 c, .int .i64 day] w fun e w' => ∃ A cap, e = .returned (.slice A (Cal.allR s c day).length cap) ∧ w'.ownsRow w.heap.size 39 2 (.slice A (Cal.allR s c day).length cap) (Cal.allR s c day).length (spanCells (Cal.allR s c day)) ∧ Below w.heap.size w w' := by
  have hinv := Cal.ofR_inv s c day
  generalize hR : Cal.allR s c day = R at *
  generalize hO : Cal.ofR s c day = O at *
  obtain ⟨on, oe⟩ := O
  have HO := Lib.hid hO
  clear hO hR
  rcases hinv with ⟨h1, rfl⟩ | ⟨h1, hR, r1, r2⟩
  · have hx : (oe != 0) = true := by simpa using h1
    clear h1
    go_enter Try.func36, Try.ntmps36
    go_wp2_with fail
    refine (refOf_any _ _ _ _).mono ?_
    rintro e v1 ⟨rfl, hb1⟩
    rw [HO.out]
    go_wp2_with fail
    go_ret
    exact ⟨none, 0, rfl, World.ownsRow_nil _ _ _ _, hb1⟩
  · injection h1 with e1 e2
    subst e1 e2
    have HR := Lib.hid hR
    clear hR
    obtain ⟨i0, hi, hz0, hz1, hz2⟩ := info_parts Try.info_span
    go_enter Try.func36, Try.ntmps36
    go_wp2_with fail
    refine (refOf_any _ _ _ _).mono ?_
    rintro e v1 ⟨rfl, hb1⟩
    rw [HO.out]
    go_wp2_with fail
    go_loopw [9, 10, 11] (fun v x i wr => ∃ (k : Nat) (f : Int) (P Q : List (Int × Int)), i = .int .i64 k ∧ x = .int .i64 f ∧ k ≤ R.length ∧ R = P ++ Q ∧ P.length = k ∧ (Q ≠ [] → Q = (Cal.findL c day (300 - k) f).1) ∧ wr.ownsRow w.heap.size 39 2 v k (spanCells P) ∧ Below w.heap.size w wr) (fun _ _ i _ => R.length - (intOf i).toNat)
    case atStart => exact ⟨0, s, [], R, rfl, rfl, by omega, rfl, rfl, fun _ => HR.out, World.ownsRow_nil _ _ _ _, hb1⟩
    case round =>
      clear HR hb1
      obtain ⟨k, f, P, Q, rfl, rfl, hk, hPQ, hP, hQ, hown, hbel⟩ := hrel
      have hsz := hbel.size
      have hlen : R.length = k + Q.length := by rw [hPQ, List.length_append, hP]
      by_cases hlt : k < R.length
      · have hne : Q ≠ [] := by
          intro h
          rw [h] at hlen
          simp at hlen
          omega
        have hq := hQ hne
        rw [show 300 - k = (299 - k) + 1 by omega] at hq
        obtain ⟨v0, Q', hL, hQ2, hQ3⟩ := Cal.findL_cons hq hne
        subst hQ2
        obtain ⟨y1, y2, y3, y4, y5, y6⟩ := Cal.lastR_inv hL
        obtain ⟨y7, y8⟩ := Cal.lastV_ge (f := f) (cd := c) y1 y2 y3 y4
        rw [← y5] at y7
        clear y5 y8
        have HL := Lib.hid hL
        have HPQ := Lib.hid hPQ
        have HP := Lib.hid hP
        have HQ := Lib.hid hQ3
        have HOW := Lib.hid hown
        have HB := Lib.hid hbel
        clear hL hPQ hP hQ3 hown hbel hq hne hQ hlen
        go_wp2_with fail
        refine (refLast_any _ _ _).mono ?_
        rintro e v2 ⟨rfl, hb2⟩
        rw [HL.out]
        have hown := own_below HOW.out hb2
        have hbel := HB.out.trans (hb2.mono hsz)
        have hsz2 := hbel.size
        clear HOW HB hb2
        go_wp2_with (at_builtin; refine wpList_append_own _ rfl _ _ 45 rfl w.heap.size 39 i0 _ 2 16 Try.underlying45 hi hz0 hz1 hz2 rfl (by decide) _ _ _ rfl (hown.alloc _) ⟨v2.heap.size, 0, none⟩ 1 1 (spanCells [(f, v0)]) rfl rfl ?c1 ?c2 ?c3 ?c4 ?c5 ?_)
        case c1 => exact new_span v2 _ f v0
        case c2 => exact spanCells_one _
        case c3 => unfold maxLen; omega
        case c4 => omega
        case c5 => simp; omega
        intro v' wn hown' hgrow _
        have hbel' := (hbel.alloc hbel.size _).grown hgrow (by simp; omega) (fun g hg => (hown.lt g hg).1)
        rw [← spanCells_append] at hown'
        clear hown hgrow hbel
        go_wp2_with fail
        go_roundw
        case rel => exact ⟨k + 1, v0 + 1, P ++ [(f, v0)], Q', by go_num, rfl, by omega, by rw [HPQ.out]; simp, by simp [HP.out], fun h => by rw [HQ.out h, show 299 - k = 300 - (k + 1) by omega], hown', hbel'⟩
        case measure => simp [intOf]; omega
      · have hke : k = R.length := by omega
        have hqe : Q = [] := by
          have : Q.length = 0 := by omega
          exact List.length_eq_zero_iff.1 this
        subst hqe
        rw [List.append_nil] at hPQ
        subst hPQ
        subst hke
        obtain ⟨A, cap, rfl, _⟩ := own_form hown
        clear hQ hP hlen
        go_wp2_with fail
        go_ret
        exact ⟨A, cap, rfl, hown, hbel⟩

/-! ### are they alike -/
theorem spanCells_at (l : List (Int × Int)) (k j : Nat) (hk : k < l.length) (hj : j < 2) : (spanCells l)[2 * k + j]? = [Value.int .i64 (l.getD k (0, 0)).1, Value.int .i64 (l.getD k (0, 0)).2][j]? := by
  induction l generalizing k with
  | nil => simp at hk
  | cons e l ih =>
    unfold spanCells
    rw [List.flatMap_cons]
    cases k with
    | zero =>
      rw [List.getElem?_append_left (by simp; omega)]
      simp [List.getD]
    | succ k =>
      rw [List.getElem?_append_right (by simp; omega)]
      have := ih k (by simp at hk; omega)
      unfold spanCells at this
      simp only [List.length_cons, List.length_nil]
      rw [show 2 * (k + 1) + j - (0 + 1 + 1) = 2 * k + j by omega, this]
      simp [List.getD]
theorem spans_at {w : World} {B n : Nat} {A : Option Addr} {l : List (Int × Int)} {k : Nat} (h : Reads w B 2 A n (spanCells l)) (hl : l.length = n) (hk : k < n) : ∃ b o, A = some ⟨b, o, none⟩ ∧ b < B ∧ w.cell? ⟨b, o + k * 2, none⟩ = some (.int .i64 (l.getD k (0, 0)).1) ∧ w.cell? ⟨b, o + k * 2 + 1, none⟩ = some (.int .i64 (l.getD k (0, 0)).2) := by
  obtain ⟨b, o, e, hb, hc⟩ := Reads.lit h (by omega) (by omega)
  refine ⟨b, o, e, hb, ?_⟩
  rw [show k * 2 = 2 * k by omega]
  simp only [Nat.add_assoc]
  exact ⟨hc _ _ (spanCells_at l k 0 (by omega) (by omega)), hc _ _ (spanCells_at l k 1 (by omega) (by omega))⟩

set_option maxRecDepth 100000 in
theorem eqSpan_any (x y : Int) (w : World) : Calls Try.prog 43 #[.agg #[.int .i64 x, .int .i64 y], .agg #[.int .i64 x, .int .i64 y]] w fun e w' => e = .returned (.bool true) ∧ Below w.heap.size w w' := by
  go_enter Try.func43, Try.ntmps43
  go_wp2
  go_ret
  exact ⟨rfl, ((Below.refl _ _).alloc (Nat.le_refl _) _).alloc (by simp) _⟩

set_option maxRecDepth 100000 in
theorem sameSpan_eq (A A2 : Option Addr) (n c c2 B B2 : Nat) (l : List (Int × Int)) (w : World) (hr : Reads w B 2 A n (spanCells l)) (hr2 : Reads w B2 2 A2 n (spanCells l)) (hl : l.length = n) (hB : B ≤ w.heap.size) (hB2 : B2 ≤ w.heap.size) (hn : n ≤ maxLen) :
    Calls Try.prog 42 #[.slice A n c, .slice A2 n c2, .func (.func 43) #[] #[]] w fun e w' => e = .returned (.bool true) ∧ Below w.heap.size w w' := by
  unfold maxLen at hn
  go_enter Try.func42, Try.ntmps42
  go_wp2
  go_loopw [7] (fun i wr => ∃ k : Nat, k ≤ n ∧ i = .int .i64 k ∧ Below w.heap.size w wr) (fun i _ => n - (intOf i).toNat)
  case atStart => exact ⟨0, by omega, rfl, Below.refl _ _⟩
  case round =>
    obtain ⟨k, hk, rfl, hq⟩ := hrel
    by_cases hlt : k < n
    · obtain ⟨b, o, rfl, hbk, c0, c1⟩ := spans_at (hr.below (hq.mono hB)) hl hlt
      obtain ⟨b2, o2, rfl, hbk2, d0, d1⟩ := spans_at (hr2.below (hq.mono hB2)) hl hlt
      generalize l.getD k (0, 0) = ev at *
      obtain ⟨x, y⟩ := ev
      dsimp only at c0 c1 d0 d1
      go_wp2_with fail
      go_still_tail 9, (by kernel_rfl)
      change wpList _ _ _ _ _ wr.drew
      have hq' : Below w.heap.size w wr.drew := hq.drew
      clear hq
      generalize wr.drew = w2 at *
      go_wp2_with fail
      refine (eqSpan_any x y _).mono ?_
      rintro e w3 ⟨rfl, hb3⟩
      go_wp2_with fail
      go_roundw
      case rel => exact ⟨k + 1, by omega, by go_num, hq'.trans (hb3.mono hq'.size)⟩
      case measure => simp [intOf]; omega
    · go_wp2
      go_ret
      exact ⟨rfl, hq⟩

set_option maxRecDepth 100000 in
theorem plainSpan_eq (A A2 : Option Addr) (n c c2 B B2 : Nat) (l : List (Int × Int)) (w : World) (hr : Reads w B 2 A n (spanCells l)) (hr2 : Reads w B2 2 A2 n (spanCells l)) (hl : l.length = n) (hB : B ≤ w.heap.size) (hB2 : B2 ≤ w.heap.size) (hn : n ≤ maxLen) :
    Calls Try.prog 34 #[.slice A n c, .slice A2 n c2] w fun e w' => e = .returned (.bool true) ∧ Below w.heap.size w w' := by
  go_enter Try.func34, Try.ntmps34
  go_wp2_with fail
  refine (sameSpan_eq A A2 n c c2 B B2 l _ hr hr2 hl hB hB2 hn).mono ?_
  rintro e w' ⟨rfl, hq⟩
  go_wp2_with fail
  go_ret
  exact ⟨rfl, hq⟩
end Go.Proofs.Ytbkbeblogfakjaa
