/- The walk of the law GraceParts: it returns true, and turns nothing that was there. -/
import Derived.Test.YthblmgfbdkdkhaaGraceHas
import Derived.Test.YthblmgfbdkdkhaaOwnEv
import Derived.WalkSpells
import Derived.OpenShut
namespace Go.Proofs.Ythblmgfbdkdkhaa
open Go.RowKit
set_option linter.unusedVariables false

theorem paidGo_snoc (first due : Int) (e : Ev) (l : List Ev) : ∀ all s, paidGo first due all l = (s, 0) → paidGo first due all (l ++ [e]) = paidGo first due s [e] := by
  induction l with
  | nil =>
    intro all s h
    simp only [paidGo, Prod.mk.injEq, and_true] at h
    rw [h, List.nil_append]
  | cons x l ih =>
    intro all s h
    rw [List.cons_append, paidGo]
    rw [paidGo] at h
    split at h
    · rename_i h1
      rw [if_pos h1]
      split at h
      · simp at h
      · rename_i h2
        rw [if_neg h2]
        exact ih _ _ h
    · rename_i h1
      rw [if_neg h1]
      exact ih _ _ h
theorem paidGo_in {s : Int} {l : List Ev} {d v : Int} (h : paidGo 3 12 0 l = (s, 0)) (h1 : 3 ≤ d) (h2 : d ≤ 12) (h3 : 0 ≤ v) (h4 : v ≤ 500) (h5 : s ≤ 100000) : paidGo 3 12 0 (l ++ [⟨2, d, 0, v, 0⟩]) = (s + v, 0) := by
  rw [paidGo_snoc _ _ _ _ _ _ h, paidGo_more ⟨rfl, h1, h2⟩ ⟨h3, by dsimp only; omega⟩, if_neg (by dsimp only; omega)]
  rfl
theorem paidGo_out {s : Int} {l : List Ev} {d v : Int} (h : paidGo 3 12 0 l = (s, 0)) (h1 : ¬ (3 ≤ d ∧ d ≤ 12)) : paidGo 3 12 0 (l ++ [⟨2, d, 0, v, 0⟩]) = (s, 0) := by
  rw [paidGo_snoc _ _ _ _ _ _ h, paidGo_skip (fun h => h1 h.2)]
  rfl
theorem hasB_sum (owed s : Int) (h : 0 ≤ s) : hasB owed (s, 0) = decide (owed ≤ s) := by
  unfold hasB
  by_cases h1 : owed ≤ s
  · simp [h1]
  · simp [h1]
    omega

theorem new1_cells (w : World) (t : TypeId) (m : Nat × Nat) (e : Ev) : ∀ j u, (evCells [e])[j]? = some u → (w.alloc (.cells #[.int .i64 e.kind, .int .i64 e.day, .int .i64 e.tr, .int .i64 e.amount, .int .i64 e.ref] t m)).cell? ((⟨w.heap.size, 0, none⟩ : Addr).add j) = some u := by
  intro j u hj
  obtain ⟨ad2, e2, _, hcc⟩ := (Evs.new1 w t m e).2 (by omega)
  injection e2 with e2
  subst e2
  exact hcc j u hj

theorem own_form {w : World} {base : Nat} {e : TypeId} {size n : Nat} {v : Value} {xs : List Value} (h : w.ownsRow base e size v n xs) : ∃ A c, v = .slice A n c ∧ Reads w w.heap.size size A n xs := by
  rcases h.2 with ⟨rfl, rfl⟩ | ⟨g, cap, cur, rfl, _⟩
  · exact ⟨none, 0, rfl, h.1, fun h => absurd h (by omega)⟩
  · exact ⟨_, _, rfl, Reads.of_own h⟩

set_option maxRecDepth 100000 in
set_option maxHeartbeats 4000000 in
theorem graceParts_walk (a0 : Option Addr) (len0 cap0 : Nat) (z0 : List Int) (a1 : Option Addr) (len1 cap1 : Nat) (z1 : List Int) (a2 : Int) (w : World) (w0 : IsRow .i64 w a0 len0 cap0 z0) (w1 : IsRow .i64 w a1 len1 cap1 z1) (w2 : (Lit.int .i64 a2).wf = true) :
    Calls Try.prog 9 #[.slice a0 len0 cap0, .slice a1 len1 cap1, .int .i64 a2] w fun e w' => e = .returned (.bool true) ∧ Below w.heap.size w w' := by
  have hnum := w0.nums
  have hnum1 := w1.nums
  have hlen1 := w1.len_
  generalize z0.take len0 = ps at *
  generalize z1.take len1 = cs at *
  clear w0 w1
  by_cases h : 30 < len0
  · go_enter Try.func9, Try.ntmps9
    go_wp2_with fail
    refine (awake14 _).mono ?_
    rintro e wa ⟨rfl, hb⟩
    go_wp2_with fail
    go_ret
    exact ⟨rfl, hb⟩
  obtain ⟨i0, hi, hz0, hz1, hz2⟩ := info_parts Try.info_ev
  obtain ⟨u2, n2, hu2, hu20, hu21, hn2, hl2⟩ := u64_rest a2 5000 (by omega)
  have hd1 : decide (30 < (len0 : Int)) = false := by simp; omega
  unfold maxLen at hlen1
  go_enter Try.func9, Try.ntmps9
  go_wp2_with fail
  clear hu2 hu20 hu21 hn2
  go_loopw [7, 8, 9, 10] (fun v s i d wr => ∃ (k : Nat) (l : List Ev) (sum : Int), k ≤ len0 ∧ i = .int .i64 k ∧ s = .int .i64 sum ∧ 0 ≤ sum ∧ sum ≤ 500 * k ∧ l.length = k ∧ paidGo 3 12 0 l = (sum, 0) ∧ wr.ownsRow w.heap.size 39 5 v k (evCells l) ∧ Below w.heap.size w wr) (fun _ _ i _ _ => len0 - (intOf i).toNat)
  case atStart => exact ⟨0, [], 0, by omega, rfl, rfl, by omega, by omega, rfl, rfl, World.ownsRow_nil _ _ _ _, Below.refl _ _⟩
  case round =>
    obtain ⟨k, l, sum, hk, rfl, rfl, hs0, hs1, hll, hpd, hown, hbel⟩ := hrel
    have HL := Lib.hid hll
    have HP := Lib.hid hpd
    clear hll hpd
    by_cases hlt : k < len0
    · obtain ⟨ad, rfl, _, hc⟩ := (hnum.below hbel).at_ hlt
      generalize ps.getD k 0 = x at *
      obtain ⟨u, n, hu, hu0, hu1, hun, hn⟩ := u64_rest x 500 (by omega)
      by_cases hsec : k < len1
      · obtain ⟨ad1, rfl, _, hc1⟩ := (hnum1.below hbel).at_ hsec
        generalize cs.getD k 0 = y at *
        obtain ⟨u1, D, hv, hv0, hv1, hvn, hD⟩ := u64_rest y 20 (by omega)
        by_cases h3 : (3 : Int) ≤ D
        · by_cases h4 : (D : Int) ≤ 12
          · have hp := paidGo_in (v := (n : Int)) HP.out h3 h4 (by omega) (by omega) (by omega)
            have HP2 := Lib.hid hp
            clear hp
            go_wp2_with (at_builtin; refine wpList_append_own _ rfl _ _ 36 rfl w.heap.size 39 i0 _ 5 40 Try.underlying36 hi hz0 hz1 hz2 rfl (by decide) _ _ _ rfl (hown.alloc _) ⟨wr.heap.size, 0, none⟩ 1 1 (evCells [⟨2, D, 0, n, 0⟩]) rfl rfl ?c1ain ?c2ain ?c3ain ?c4ain ?c5ain ?_)
            case c1ain => first | exact new1_cells wr _ _ ⟨2, D, 0, n, 0⟩ | exact fun _ _ h => h
            case c2ain => exact evCells_one _
            case c3ain => unfold maxLen; omega
            case c4ain => omega
            case c5ain => have := hbel.size; simp; omega
            intro v' wn hown' hgrow _
            have hbel' := (hbel.alloc hbel.size _).grown hgrow (by have := hbel.size; simp; omega) (fun g hg => (hown.lt g hg).1)
            rw [← evCells_append] at hown'
            clear hown hgrow hbel
            go_wp2
            go_roundw
            case rel => exact ⟨k + 1, _, sum + n, by omega, by go_num, rfl, by omega, by omega, by simp [HL.out], HP2.out, hown', hbel'⟩
            case measure => simp [intOf]; omega
          · have hp := paidGo_out (v := (n : Int)) (d := (D : Int)) HP.out (by omega)
            have HP2 := Lib.hid hp
            clear hp
            go_wp2_with (at_builtin; refine wpList_append_own _ rfl _ _ 36 rfl w.heap.size 39 i0 _ 5 40 Try.underlying36 hi hz0 hz1 hz2 rfl (by decide) _ _ _ rfl (hown.alloc _) ⟨wr.heap.size, 0, none⟩ 1 1 (evCells [⟨2, D, 0, n, 0⟩]) rfl rfl ?c1ahigh ?c2ahigh ?c3ahigh ?c4ahigh ?c5ahigh ?_)
            case c1ahigh => first | exact new1_cells wr _ _ ⟨2, D, 0, n, 0⟩ | exact fun _ _ h => h
            case c2ahigh => exact evCells_one _
            case c3ahigh => unfold maxLen; omega
            case c4ahigh => omega
            case c5ahigh => have := hbel.size; simp; omega
            intro v' wn hown' hgrow _
            have hbel' := (hbel.alloc hbel.size _).grown hgrow (by have := hbel.size; simp; omega) (fun g hg => (hown.lt g hg).1)
            rw [← evCells_append] at hown'
            clear hown hgrow hbel
            go_wp2
            go_roundw
            case rel => exact ⟨k + 1, _, sum, by omega, by go_num, rfl, by omega, by omega, by simp [HL.out], HP2.out, hown', hbel'⟩
            case measure => simp [intOf]; omega
        · have hp := paidGo_out (v := (n : Int)) (d := (D : Int)) HP.out (by omega)
          have HP2 := Lib.hid hp
          clear hp
          go_wp2_with (at_builtin; refine wpList_append_own _ rfl _ _ 36 rfl w.heap.size 39 i0 _ 5 40 Try.underlying36 hi hz0 hz1 hz2 rfl (by decide) _ _ _ rfl (hown.alloc _) ⟨wr.heap.size, 0, none⟩ 1 1 (evCells [⟨2, D, 0, n, 0⟩]) rfl rfl ?c1alow ?c2alow ?c3alow ?c4alow ?c5alow ?_)
          case c1alow => first | exact new1_cells wr _ _ ⟨2, D, 0, n, 0⟩ | exact fun _ _ h => h
          case c2alow => exact evCells_one _
          case c3alow => unfold maxLen; omega
          case c4alow => omega
          case c5alow => have := hbel.size; simp; omega
          intro v' wn hown' hgrow _
          have hbel' := (hbel.alloc hbel.size _).grown hgrow (by have := hbel.size; simp; omega) (fun g hg => (hown.lt g hg).1)
          rw [← evCells_append] at hown'
          clear hown hgrow hbel
          go_wp2
          go_roundw
          case rel => exact ⟨k + 1, _, sum, by omega, by go_num, rfl, by omega, by omega, by simp [HL.out], HP2.out, hown', hbel'⟩
          case measure => simp [intOf]; omega
      · obtain ⟨D, hD0⟩ : ∃ D : Nat, (k : Int) % 20 = D := ⟨k % 20, by omega⟩
        have hD : (D : Int) < 20 := by omega
        by_cases h3 : (3 : Int) ≤ D
        · by_cases h4 : (D : Int) ≤ 12
          · have hp := paidGo_in (v := (n : Int)) HP.out h3 h4 (by omega) (by omega) (by omega)
            have HP2 := Lib.hid hp
            clear hp
            go_wp2_with (at_builtin; refine wpList_append_own _ rfl _ _ 36 rfl w.heap.size 39 i0 _ 5 40 Try.underlying36 hi hz0 hz1 hz2 rfl (by decide) _ _ _ rfl (hown.alloc _) ⟨wr.heap.size, 0, none⟩ 1 1 (evCells [⟨2, D, 0, n, 0⟩]) rfl rfl ?c1bin ?c2bin ?c3bin ?c4bin ?c5bin ?_)
            case c1bin => first | exact new1_cells wr _ _ ⟨2, D, 0, n, 0⟩ | exact fun _ _ h => h
            case c2bin => exact evCells_one _
            case c3bin => unfold maxLen; omega
            case c4bin => omega
            case c5bin => have := hbel.size; simp; omega
            intro v' wn hown' hgrow _
            have hbel' := (hbel.alloc hbel.size _).grown hgrow (by have := hbel.size; simp; omega) (fun g hg => (hown.lt g hg).1)
            rw [← evCells_append] at hown'
            clear hown hgrow hbel
            go_wp2
            go_roundw
            case rel => exact ⟨k + 1, _, sum + n, by omega, by go_num, rfl, by omega, by omega, by simp [HL.out], HP2.out, hown', hbel'⟩
            case measure => simp [intOf]; omega
          · have hp := paidGo_out (v := (n : Int)) (d := (D : Int)) HP.out (by omega)
            have HP2 := Lib.hid hp
            clear hp
            go_wp2_with (at_builtin; refine wpList_append_own _ rfl _ _ 36 rfl w.heap.size 39 i0 _ 5 40 Try.underlying36 hi hz0 hz1 hz2 rfl (by decide) _ _ _ rfl (hown.alloc _) ⟨wr.heap.size, 0, none⟩ 1 1 (evCells [⟨2, D, 0, n, 0⟩]) rfl rfl ?c1bhigh ?c2bhigh ?c3bhigh ?c4bhigh ?c5bhigh ?_)
            case c1bhigh => first | exact new1_cells wr _ _ ⟨2, D, 0, n, 0⟩ | exact fun _ _ h => h
            case c2bhigh => exact evCells_one _
            case c3bhigh => unfold maxLen; omega
            case c4bhigh => omega
            case c5bhigh => have := hbel.size; simp; omega
            intro v' wn hown' hgrow _
            have hbel' := (hbel.alloc hbel.size _).grown hgrow (by have := hbel.size; simp; omega) (fun g hg => (hown.lt g hg).1)
            rw [← evCells_append] at hown'
            clear hown hgrow hbel
            go_wp2
            go_roundw
            case rel => exact ⟨k + 1, _, sum, by omega, by go_num, rfl, by omega, by omega, by simp [HL.out], HP2.out, hown', hbel'⟩
            case measure => simp [intOf]; omega
        · have hp := paidGo_out (v := (n : Int)) (d := (D : Int)) HP.out (by omega)
          have HP2 := Lib.hid hp
          clear hp
          go_wp2_with (at_builtin; refine wpList_append_own _ rfl _ _ 36 rfl w.heap.size 39 i0 _ 5 40 Try.underlying36 hi hz0 hz1 hz2 rfl (by decide) _ _ _ rfl (hown.alloc _) ⟨wr.heap.size, 0, none⟩ 1 1 (evCells [⟨2, D, 0, n, 0⟩]) rfl rfl ?c1blow ?c2blow ?c3blow ?c4blow ?c5blow ?_)
          case c1blow => first | exact new1_cells wr _ _ ⟨2, D, 0, n, 0⟩ | exact fun _ _ h => h
          case c2blow => exact evCells_one _
          case c3blow => unfold maxLen; omega
          case c4blow => omega
          case c5blow => have := hbel.size; simp; omega
          intro v' wn hown' hgrow _
          have hbel' := (hbel.alloc hbel.size _).grown hgrow (by have := hbel.size; simp; omega) (fun g hg => (hown.lt g hg).1)
          rw [← evCells_append] at hown'
          clear hown hgrow hbel
          go_wp2
          go_roundw
          case rel => exact ⟨k + 1, _, sum, by omega, by go_num, rfl, by omega, by omega, by simp [HL.out], HP2.out, hown', hbel'⟩
          case measure => simp [intOf]; omega
    · have hke : k = len0 := by omega
      clear hnum hnum1
      subst hke
      have hb1 := hasB_sum n2 sum hs0
      have hb2 : hasB 0 (paidGo 3 12 0 []) = true := by decide
      have hb3 : (paidGo 3 12 0 []).2 = 0 := by decide
      have HB1 := Lib.hid hb1
      have HB2 := Lib.hid hb2
      have HB3 := Lib.hid hb3
      clear hb1 hb2 hb3
      have hm : k ≤ maxLen := by unfold maxLen; omega
      obtain ⟨A, c, rfl, hre⟩ := own_form hown
      have hev : Evs wr wr.heap.size A k l := hre
      clear hown hre
      have HEV := Lib.hid hev
      clear hev
      have hp1 : (paidGo 3 12 0 l).1 = sum := by rw [HP.out]
      have hp2 : (paidGo 3 12 0 l).2 = 0 := by rw [HP.out]
      have hb4 : hasB n2 (paidGo 3 12 0 l) = decide ((n2 : Int) ≤ sum) := by rw [HP.out]; exact HB1.out
      have HP1 := Lib.hid hp1
      have HP2 := Lib.hid hp2
      have HB4 := Lib.hid hb4
      clear hp1 hp2 hb4 HP HB1
      go_wp2_with fail
      refine (paid_any 3 12 A k c _ l _ HEV.out (Nat.le_refl _) hm).mono ?_
      rintro e v1 ⟨rfl, hb1⟩
      rw [HP1.out, HP2.out]
      have hbel1 := hbel.trans (hb1.mono hbel.size)
      have hev1 : Evs v1 wr.heap.size A k l := HEV.out.below hb1
      have hsz := hb1.size
      clear HEV hb1 hbel
      go_wp2_with fail
      refine (has_any n2 3 12 A k c _ l _ hev1 hsz hm).mono ?_
      rintro e v2 ⟨rfl, hb2⟩
      rw [HB4.out, HP2.out]
      have hbel2 := hbel1.trans (hb2.mono hbel1.size)
      clear hev1 hb2 hbel1 hsz
      go_wp2_with fail
      refine (has_any 0 3 12 none 0 0 _ [] _ Reads.none_ (Nat.zero_le _) (Nat.zero_le _)).mono ?_
      rintro e v3 ⟨rfl, hb3⟩
      rw [HB2.out, HB3.out]
      have hbel3 := hbel2.trans (hb3.mono hbel2.size)
      clear hb3 hbel2
      go_wp2_with fail
      refine (awake14 _).mono ?_
      rintro e v4 ⟨rfl, hb4⟩
      have hbel4 := hbel3.trans (hb4.mono hbel3.size)
      clear hb4 hbel3
      go_wp2_with fail
      go_ret
      exact ⟨rfl, hbel4⟩
end Go.Proofs.Ythblmgfbdkdkhaa
