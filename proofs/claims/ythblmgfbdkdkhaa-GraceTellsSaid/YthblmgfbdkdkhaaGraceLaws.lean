/- The walks of the laws on grace: each returns true, and turns nothing that was there. -/
import Derived.Test.YthblmgfbdkdkhaaGraceHas
import Derived.Test.YthblmgfbdkdkhaaOwnEv
import Derived.Test.YthblmgfbdkdkhaaOpenEv
import Derived.WalkSpells
import Derived.OpenShut
namespace Go.Proofs.Ythblmgfbdkdkhaa
open Go.RowKit
set_option linter.unusedVariables false

set_option maxRecDepth 100000 in
set_option maxHeartbeats 1000000 in
theorem graceTells_walk (a0 a1 a2 : Int) (a3 : Option Addr) (len3 cap3 : Nat) (l : List Ev) (w : World) (w0 : (Lit.int .i64 a0).wf = true) (w1 : (Lit.int .i64 a1).wf = true) (w2 : (Lit.int .i64 a2).wf = true) (w3 : EvRow w a3 len3 cap3 l) :
    Calls Try.prog 7 #[.int .i64 a0, .int .i64 a1, .int .i64 a2, .slice a3 len3 cap3] w fun e w' => e = .returned (.bool true) ∧ Below w.heap.size w w' := by
  obtain ⟨hev, hnil, hlen⟩ := w3
  have hl := hev.len
  have HL := Lib.hid hl
  clear hl
  by_cases h : 200 < len3
  · go_enter Try.func7, Try.ntmps7
    go_wp2_with fail
    refine (awake14 _).mono ?_
    rintro e wa ⟨rfl, hb⟩
    go_wp2_with fail
    go_ret
    exact ⟨rfl, hb⟩
  · go_enter Try.func7, Try.ntmps7
    go_wp2_with fail
    refine (ownEv_any a3 len3 cap3 w.heap.size l 71 0 0 0 0 _ hev hnil (Nat.le_refl _) (by omega)).mono ?_
    rintro e v1 ⟨rfl, hblk, hb1⟩
    go_wp2_with fail
    refine (paid_any a1 a2 _ len3 _ _ l _ (own_evs HL.out hblk) hblk.lt hlen).mono ?_
    rintro e v2 ⟨rfl, hb2⟩
    have hblk2 := hblk.below hb2 hblk.lt
    have hbel2 := hb1.trans (hb2.mono hb1.size)
    clear hblk hb1 hb2
    go_wp2_with fail
    refine (refPaid_any a1 a2 _ len3 _ _ l _ (hev.below hbel2) hbel2.size hlen).mono ?_
    rintro e v3 ⟨rfl, hb3⟩
    have hblk3 := hblk2.below hb3 hblk2.lt
    have hbel3 := hbel2.trans (hb3.mono hbel2.size)
    clear hblk2 hbel2 hb3
    go_wp2_with fail
    refine (has_any a0 a1 a2 _ len3 _ _ l _ (own_evs HL.out hblk3) hblk3.lt hlen).mono ?_
    rintro e v4 ⟨rfl, hb4⟩
    have hblk4 := hblk3.below hb4 hblk3.lt
    have hbel4 := hbel3.trans (hb4.mono hbel3.size)
    clear hblk3 hbel3 hb4
    go_wp2_with fail
    refine (refHas_any a0 a1 a2 _ len3 _ _ l _ (hev.below hbel4) hbel4.size hlen).mono ?_
    rintro e v5 ⟨rfl, hb5⟩
    have hblk5 := hblk4.below hb5 hblk4.lt
    have hbel5 := hbel4.trans (hb5.mono hbel4.size)
    clear hblk4 hbel4 hb5
    go_wp2_with fail
    refine (awake14 _).mono ?_
    rintro e v6 ⟨rfl, hb6⟩
    have hblk6 := hblk5.below hb6 hblk5.lt
    have hbel6 := hbel5.trans (hb6.mono hbel5.size)
    clear hblk5 hbel5 hb6
    go_wp2_with fail
    refine (keptEv_any _ _ len3 _ _ l 71 0 0 0 0 _ hblk6 (hev.below hbel6) hbel6.size (by omega)).mono ?_
    rintro e v7 ⟨rfl, hb7⟩
    have hbel7 := hbel6.trans (hb7.mono hbel6.size)
    go_wp2_with fail
    go_ret
    exact ⟨rfl, hbel7⟩

theorem edge_skip (O F U K D T A R : Int) (h1 : 1 ≤ O) (h : ¬ (K = 2 ∧ F ≤ D ∧ D ≤ U)) : hasB O (paidGo F U 0 [⟨K, D, T, A, R⟩]) = false ∧ (paidGo F U 0 [⟨K, D, T, A, R⟩]).2 = 0 := by
  rw [paidGo_skip (by dsimp only; exact h)]
  refine ⟨?_, rfl⟩
  simp [hasB, paidGo]
  omega
theorem edge_more (O F U K D T A R : Int) (h1 : 1 ≤ O) (h : K = 2 ∧ F ≤ D ∧ D ≤ U) (h2 : 0 ≤ A) (h3 : A ≤ 1000) : hasB O (paidGo F U 0 [⟨K, D, T, A, R⟩]) = decide (O ≤ A) ∧ (paidGo F U 0 [⟨K, D, T, A, R⟩]).2 = 0 := by
  rw [paidGo_more (by dsimp only; exact h) (by dsimp only; omega)]
  refine ⟨?_, rfl⟩
  rw [if_neg (by dsimp only; omega)]
  simp [hasB, paidGo]
  omega

set_option maxRecDepth 100000 in
set_option maxHeartbeats 1000000 in
theorem graceEdges_walk (a0 a1 a2 a3 a4 : Int) (a5 : Bool) (w : World) (w0 : (Lit.int .i64 a0).wf = true) (w1 : (Lit.int .i64 a1).wf = true) (w2 : (Lit.int .i64 a2).wf = true) (w3 : (Lit.int .i64 a3).wf = true) (w4 : (Lit.int .i64 a4).wf = true) :
    Calls Try.prog 8 #[.int .i64 a0, .int .i64 a1, .int .i64 a2, .int .i64 a3, .int .i64 a4, .bool a5] w fun e w' => e = .returned (.bool true) ∧ Below w.heap.size w w' := by
  obtain ⟨u0, n0, hu0, hu00, hu01, hn0, hl0⟩ := u64_rest a0 1000 (by omega)
  obtain ⟨u1, n1, hu1, hu10, hu11, hn1, hl1⟩ := u64_rest a1 100 (by omega)
  obtain ⟨u2, n2, hu2, hu20, hu21, hn2, hl2⟩ := u64_rest a2 30 (by omega)
  obtain ⟨u3, n3, hu3, hu30, hu31, hn3, hl3⟩ := u64_rest a3 40 (by omega)
  obtain ⟨u4, n4, hu4, hu40, hu41, hn4, hl4⟩ := u64_rest a4 6 (by omega)
  obtain ⟨O, hO⟩ : ∃ O : Int, 1 + (n0 : Int) = O := ⟨_, rfl⟩
  obtain ⟨U, hU⟩ : ∃ U : Int, (n1 : Int) + (n2 : Int) = U := ⟨_, rfl⟩
  obtain ⟨D, hD⟩ : ∃ D : Int, (n1 : Int) - 3 + (n3 : Int) = D := ⟨_, rfl⟩
  obtain ⟨K, hK⟩ : ∃ K : Int, 1 + (n4 : Int) = K := ⟨_, rfl⟩
  obtain ⟨M, hM⟩ : ∃ M : Int, O - 1 = M := ⟨_, rfl⟩
  have b1 : 1 ≤ O ∧ O ≤ 1000 := by omega
  have b2 : 0 ≤ M ∧ M < O := by omega
  have b3 : 0 ≤ U ∧ U ≤ 200 := by omega
  have b4 : -3 ≤ D ∧ D ≤ 200 := by omega
  have b5 : 1 ≤ K ∧ K ≤ 6 := by omega
  have hm : (1 : Nat) ≤ maxLen := by unfold maxLen; omega
  obtain ⟨b10, b11⟩ := b1
  obtain ⟨b20, b21⟩ := b2
  obtain ⟨b30, b31⟩ := b3
  obtain ⟨b40, b41⟩ := b4
  obtain ⟨b50, b51⟩ := b5
  cases a5 with
  | true =>
    by_cases hk : K = 2
    · subst hk
      by_cases h2 : (n1 : Int) ≤ D
      · by_cases h3 : D ≤ U
        · obtain ⟨hb, he⟩ := edge_more O n1 U 2 D 1 M 0 b10 ⟨rfl, h2, h3⟩ (by omega) (by omega)
          have hd : decide (O ≤ M) = false := by simp; omega
          rw [hd] at hb
          clear hd
          go_enter Try.func8, Try.ntmps8
          go_wp2_with fail
          refine (has_any O n1 U _ 1 _ _ [⟨2, D, 1, M, 0⟩] _ (Evs.new1 _ _ _ ⟨2, D, 1, M, 0⟩) (by simp) hm).mono ?_
          rintro e v1 ⟨rfl, hb1⟩
          have hb1' := ((Below.refl w.heap.size w).alloc (Nat.le_refl _) _).trans (hb1.mono (by simp))
          clear hb1
          go_wp2_with fail
          refine (awake14 _).mono ?_
          rintro e v2 ⟨rfl, hb2⟩
          go_wp2_with fail
          go_ret
          exact ⟨rfl, hb1'.trans (hb2.mono hb1'.size)⟩
        · obtain ⟨hb, he⟩ := edge_skip O n1 U 2 D 1 M 0 b10 (by omega)
          go_enter Try.func8, Try.ntmps8
          go_wp2_with fail
          refine (has_any O n1 U _ 1 _ _ [⟨2, D, 1, M, 0⟩] _ (Evs.new1 _ _ _ ⟨2, D, 1, M, 0⟩) (by simp) hm).mono ?_
          rintro e v1 ⟨rfl, hb1⟩
          have hb1' := ((Below.refl w.heap.size w).alloc (Nat.le_refl _) _).trans (hb1.mono (by simp))
          clear hb1
          go_wp2_with fail
          refine (awake14 _).mono ?_
          rintro e v2 ⟨rfl, hb2⟩
          go_wp2_with fail
          go_ret
          exact ⟨rfl, hb1'.trans (hb2.mono hb1'.size)⟩
      · obtain ⟨hb, he⟩ := edge_skip O n1 U 2 D 1 M 0 b10 (by omega)
        go_enter Try.func8, Try.ntmps8
        go_wp2_with fail
        refine (has_any O n1 U _ 1 _ _ [⟨2, D, 1, M, 0⟩] _ (Evs.new1 _ _ _ ⟨2, D, 1, M, 0⟩) (by simp) hm).mono ?_
        rintro e v1 ⟨rfl, hb1⟩
        have hb1' := ((Below.refl w.heap.size w).alloc (Nat.le_refl _) _).trans (hb1.mono (by simp))
        clear hb1
        go_wp2_with fail
        refine (awake14 _).mono ?_
        rintro e v2 ⟨rfl, hb2⟩
        go_wp2_with fail
        go_ret
        exact ⟨rfl, hb1'.trans (hb2.mono hb1'.size)⟩
    · obtain ⟨hb, he⟩ := edge_skip O n1 U K D 1 M 0 b10 (by omega)
      have hk1 : (K == 2) = false := by simp [hk]
      clear hk
      go_enter Try.func8, Try.ntmps8
      go_wp2_with fail
      refine (has_any O n1 U _ 1 _ _ [⟨K, D, 1, M, 0⟩] _ (Evs.new1 _ _ _ ⟨K, D, 1, M, 0⟩) (by simp) hm).mono ?_
      rintro e v1 ⟨rfl, hb1⟩
      have hb1' := ((Below.refl w.heap.size w).alloc (Nat.le_refl _) _).trans (hb1.mono (by simp))
      clear hb1
      go_wp2_with fail
      refine (awake14 _).mono ?_
      rintro e v2 ⟨rfl, hb2⟩
      go_wp2_with fail
      go_ret
      exact ⟨rfl, hb1'.trans (hb2.mono hb1'.size)⟩
  | false =>
    by_cases hk : K = 2
    · subst hk
      by_cases h2 : (n1 : Int) ≤ D
      · by_cases h3 : D ≤ U
        · obtain ⟨hb, he⟩ := edge_more O n1 U 2 D 1 O 0 b10 ⟨rfl, h2, h3⟩ (by omega) (by omega)
          have hd : decide (O ≤ O) = true := by simp
          rw [hd] at hb
          clear hd
          go_enter Try.func8, Try.ntmps8
          go_wp2_with fail
          refine (has_any O n1 U _ 1 _ _ [⟨2, D, 1, O, 0⟩] _ (Evs.new1 _ _ _ ⟨2, D, 1, O, 0⟩) (by simp) hm).mono ?_
          rintro e v1 ⟨rfl, hb1⟩
          have hb1' := ((Below.refl w.heap.size w).alloc (Nat.le_refl _) _).trans (hb1.mono (by simp))
          clear hb1
          go_wp2_with fail
          refine (awake14 _).mono ?_
          rintro e v2 ⟨rfl, hb2⟩
          go_wp2_with fail
          go_ret
          exact ⟨rfl, hb1'.trans (hb2.mono hb1'.size)⟩
        · obtain ⟨hb, he⟩ := edge_skip O n1 U 2 D 1 O 0 b10 (by omega)
          go_enter Try.func8, Try.ntmps8
          go_wp2_with fail
          refine (has_any O n1 U _ 1 _ _ [⟨2, D, 1, O, 0⟩] _ (Evs.new1 _ _ _ ⟨2, D, 1, O, 0⟩) (by simp) hm).mono ?_
          rintro e v1 ⟨rfl, hb1⟩
          have hb1' := ((Below.refl w.heap.size w).alloc (Nat.le_refl _) _).trans (hb1.mono (by simp))
          clear hb1
          go_wp2_with fail
          refine (awake14 _).mono ?_
          rintro e v2 ⟨rfl, hb2⟩
          go_wp2_with fail
          go_ret
          exact ⟨rfl, hb1'.trans (hb2.mono hb1'.size)⟩
      · obtain ⟨hb, he⟩ := edge_skip O n1 U 2 D 1 O 0 b10 (by omega)
        go_enter Try.func8, Try.ntmps8
        go_wp2_with fail
        refine (has_any O n1 U _ 1 _ _ [⟨2, D, 1, O, 0⟩] _ (Evs.new1 _ _ _ ⟨2, D, 1, O, 0⟩) (by simp) hm).mono ?_
        rintro e v1 ⟨rfl, hb1⟩
        have hb1' := ((Below.refl w.heap.size w).alloc (Nat.le_refl _) _).trans (hb1.mono (by simp))
        clear hb1
        go_wp2_with fail
        refine (awake14 _).mono ?_
        rintro e v2 ⟨rfl, hb2⟩
        go_wp2_with fail
        go_ret
        exact ⟨rfl, hb1'.trans (hb2.mono hb1'.size)⟩
    · obtain ⟨hb, he⟩ := edge_skip O n1 U K D 1 O 0 b10 (by omega)
      have hk1 : (K == 2) = false := by simp [hk]
      clear hk
      go_enter Try.func8, Try.ntmps8
      go_wp2_with fail
      refine (has_any O n1 U _ 1 _ _ [⟨K, D, 1, O, 0⟩] _ (Evs.new1 _ _ _ ⟨K, D, 1, O, 0⟩) (by simp) hm).mono ?_
      rintro e v1 ⟨rfl, hb1⟩
      have hb1' := ((Below.refl w.heap.size w).alloc (Nat.le_refl _) _).trans (hb1.mono (by simp))
      clear hb1
      go_wp2_with fail
      refine (awake14 _).mono ?_
      rintro e v2 ⟨rfl, hb2⟩
      go_wp2_with fail
      go_ret
      exact ⟨rfl, hb1'.trans (hb2.mono hb1'.size)⟩
end Go.Proofs.Ythblmgfbdkdkhaa
