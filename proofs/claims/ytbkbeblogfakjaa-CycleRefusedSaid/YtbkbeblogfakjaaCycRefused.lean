/- The walk of the law CycleRefused. -/
import Derived.Test.YtbkbeblogfakjaaCycOf
import Derived.Test.YtbkbeblogfakjaaCycFirst
import Derived.OpenShut
namespace Go.Proofs.Ytbkbeblogfakjaa
open Go.RowKit
set_option linter.unusedVariables false
set_option linter.unusedSimpArgs false

set_option maxRecDepth 100000 in
set_option maxHeartbeats 8000000 in
theorem refused_core (cd n N v e0 e1 e2 x y : Int) (b1 b2 b3 b4 : Bool) (w : World) (d1 : decide (cd < 1) = b1) (d2 : decide (28 < cd) = b2) (d3 : decide (n < 1) = b3) (d4 : decide (300 < n) = b4)
    (hN : (b3 || b4) = false → 1 + n % 30 = N) (hN2 : (b3 || b4) = true → N = n) (hL : Cal.lastR 10957 cd = (v, e0)) (hO : Cal.ofR 10957 cd 10956 = (0, e1)) (hS : Cal.spanR 10957 cd N = ((x, y), e2)) (hA : Cal.allR 10957 cd 10956 = [])
    (hE0 : e0 = bif b1 || b2 then 1 else 0) (hE1 : e1 = bif b1 || b2 then 1 else 10) (hE2 : e2 = bif b1 || b2 || b3 || b4 then 1 else 0) :
    Calls Try.prog 13 #[.int .i64 cd, .int .i64 n] w fun e w' => e = .returned (.bool true) ∧ Below w.heap.size w w' := by
  have HL := Lib.hid hL
  have HO := Lib.hid hO
  have HS := Lib.hid hS
  have HA := Lib.hid hA
  clear hL hO hS hA
  have hb : (b3 || b4) = false → 1 ≤ n ∧ n ≤ 300 := by
    intro h
    cases b3 <;> cases b4 <;> simp at h d3 d4
    omega
  cases b1 <;> cases b2 <;> cases b3 <;> cases b4 <;> simp only [Bool.or_true, Bool.or_false, cond_true, cond_false, true_implies, reduceCtorEq, false_implies, Bool.true_or, Bool.false_or] at hE0 hE1 hE2 hN hN2 hb <;> subst hE0 hE1 hE2
  all_goals first | (obtain ⟨g1, g2⟩ := hb) | skip
  all_goals first | (subst hN2) | skip
  all_goals
    go_enter Try.func13, Try.ntmps13
    go_wp2_with fail
    refine (last_any _ _ _).mono ?_
    rintro e v1 ⟨rfl, hb1⟩
    rw [HL.out]
    go_wp2_with fail
    refine (of_any _ _ _ _).mono ?_
    rintro e v2 ⟨rfl, hb2⟩
    have hb2 := hb1.trans (hb2.mono hb1.size)
    clear hb1
    rw [HO.out]
    go_wp2_with fail
    refine (span_any _ _ _ _).mono ?_
    rintro e v3 ⟨rfl, hb3⟩
    have hb3 := (hb2.trans (hb3.mono hb2.size)).alloc (by have := hb2.size; have := hb3.size; omega) (.cells (scells x y) 39)
    clear hb2
    rw [HS.out]
    unfold spanV
    have HB := Lib.hid hb3
    clear hb3
    go_wp2_with fail
    refine (awake03 _).mono ?_
    rintro e v4 ⟨rfl, hb4⟩
    have hb4' := HB.out.trans (hb4.mono HB.out.size)
    clear hb4 HB
    go_wp2_with fail
    refine (all_any _ _ _ _).mono ?_
    rintro e v5 ⟨A, cap, rfl, hown, hb5⟩
    rw [HA.out]
    have hb5' := hb4'.trans (hb5.mono hb4'.size)
    go_wp2_with fail
    go_ret
    exact ⟨rfl, hb5'⟩

theorem Cal.findL_ahead {f c d v : Int} (m : Nat) (h : Cal.lastR f c = (v, 0)) (h1 : f ≤ v) (h2 : d < f) : Cal.findL c d (m + 1) f = ([(f, v)], false) := by
  rw [Cal.findL_end m h (by omega)]
  congr 1
  simp
  intro
  omega

theorem cycleRefused_walk (a0 a1 : Int) (w : World) (w0 : (Lit.int .i64 a0).wf = true) (w1 : (Lit.int .i64 a1).wf = true) : Calls Try.prog 13 #[.int .i64 a0, .int .i64 a1] w fun e w' => e = .returned (.bool true) ∧ Below w.heap.size w w' := by
  obtain ⟨N, hN, hN2⟩ : ∃ N : Int, (1 ≤ a1 ∧ a1 ≤ 300 → 1 + a1 % 30 = N) ∧ (¬ (1 ≤ a1 ∧ a1 ≤ 300) → N = a1) := by
    by_cases h : 1 ≤ a1 ∧ a1 ≤ 300
    · exact ⟨_, fun _ => rfl, fun h2 => absurd h h2⟩
    · exact ⟨_, fun h2 => absurd h2 h, fun _ => rfl⟩
  have hn : (decide (a1 < 1) || decide (300 < a1)) = false → 1 + a1 % 30 = N := fun h => hN (by simp at h; omega)
  have hn2 : (decide (a1 < 1) || decide (300 < a1)) = true → N = a1 := fun h => hN2 (by simp at h; omega)
  by_cases hc : a0 < 1 ∨ 28 < a0
  · have hbad : (decide (a0 < 1) || decide (28 < a0)) = true := by simpa using hc
    have hl : Cal.lastR 10957 a0 = (0, 1) := Cal.lastR_arg hc
    have hf : Cal.findL a0 10956 300 10957 = ([], false) := Cal.findL_err 299 hl (by decide)
    exact refused_core a0 a1 N 0 1 1 1 0 0 _ _ _ _ w rfl rfl rfl rfl hn hn2 hl (Cal.ofR_last hl (by decide)) (Cal.spanR_last hl (by decide)) (Cal.allR_no (by rw [hf])) (by rw [hbad]; rfl) (by rw [hbad]; rfl) (by rw [hbad]; rfl)
  · have hbad : (decide (a0 < 1) || decide (28 < a0)) = false := by simp; omega
    obtain ⟨hl, g1, g2⟩ := Cal.lastR_near (f := 10957) (c := a0) (by omega) (by omega) (by omega) (by omega)
    have hf : (Cal.findL a0 10956 300 10957).2 = false := by rw [Cal.findL_ahead 299 hl g1 (by omega)]
    by_cases h : 1 ≤ a1 ∧ a1 ≤ 300
    · have hb2 : (decide (a1 < 1) || decide (300 < a1)) = false := by simp; omega
      have hNN := hN h
      have hs := Cal.spanR_in hl (n := N) (by omega) (by omega)
      have hz := Cal.spanN_near (c := a0) (by omega) (by omega) (N - 1).toNat 10957 (by omega) (by omega)
      rw [← hs] at hz
      exact refused_core a0 a1 N _ 0 10 0 (Cal.spanR 10957 a0 N).1.1 (Cal.spanR 10957 a0 N).1.2 _ _ _ _ w rfl rfl rfl rfl hn hn2 hl (Cal.ofR_no hl hf) (by rw [← hz]) (Cal.allR_no hf) (by rw [hbad]; rfl) (by rw [hbad]; rfl) (by rw [Bool.or_assoc, hbad, hb2]; rfl)
    · have hb2 : (decide (a1 < 1) || decide (300 < a1)) = true := by simp; omega
      have hNN := hN2 h
      have hs := Cal.spanR_num hl (n := N) (by omega)
      exact refused_core a0 a1 N _ 0 10 1 0 0 _ _ _ _ w rfl rfl rfl rfl hn hn2 hl (Cal.ofR_no hl hf) hs (Cal.allR_no hf) (by rw [hbad]; rfl) (by rw [hbad]; rfl) (by rw [Bool.or_assoc, hbad, hb2]; rfl)
end Go.Proofs.Ytbkbeblogfakjaa
