/- The walk of the law CycleTells. -/
import Derived.Test.YtbkbeblogfakjaaCycRefAll
import Derived.Test.YtbkbeblogfakjaaCycRefSpan
import Derived.OpenShut
namespace Go.Proofs.Ytbkbeblogfakjaa
open Go.RowKit
set_option linter.unusedVariables false
set_option linter.unusedSimpArgs false

set_option maxRecDepth 100000 in
set_option maxHeartbeats 8000000 in
/-- The calls of the law, once its numbers are brought near. -/
theorem tells_core (b1 b2 b3 b4 : Bool) (a0 a2 a3 f c d T n x : Int) (w : World) (w0 : (Lit.int .i64 a0).wf = true) (w3 : (Lit.int .i64 a3).wf = true) (hf : Cal.near a0 = f) (hd : Cal.near a3 = d)
    (d1 : decide (40 < a2) = b1) (d2 : decide (a2 ≤ 300) = b2) (hT : wrap64 (f + 1500) = T) (d3 : decide (T < d) = b3) (d4 : decide (d ≤ 2932896) = b4)
    (hn : (b1 && b2) = true → 1 + a2 % 40 = n) (hn2 : (b1 && b2) = false → a2 = n) (hd1 : (b3 && b4) = true → wrap64 (f + d.tmod 1500) = x) (hd2 : (b3 && b4) = false → d = x) :
    Calls Try.prog 11 #[.int .i64 a0, .int .i64 c, .int .i64 a2, .int .i64 a3] w fun e w' => e = .returned (.bool true) ∧ Below w.heap.size w w' := by
  have HF := Lib.hid hf
  have HD := Lib.hid hd
  clear hf hd
  have hr : (b1 && b2) = true → 40 < a2 ∧ a2 ≤ 300 := by
    intro h
    cases b1 <;> cases b2 <;> simp at h d1 d2
    omega
  generalize hL : Cal.lastR f c = L
  obtain ⟨l1, l2⟩ := L
  generalize hS : Cal.spanR f c n = S
  obtain ⟨⟨s1, s2⟩, s3⟩ := S
  generalize hO : Cal.ofR f c x = O
  obtain ⟨o1, o2⟩ := O
  generalize hA : Cal.allR f c x = A
  have hAl : A.length ≤ 300 := by
    rw [← hA]
    unfold Cal.allR
    split
    · exact Cal.findL_len _ _ _ _
    · simp
  have HL := Lib.hid hL
  have HS := Lib.hid hS
  have HO := Lib.hid hO
  have HA := Lib.hid hA
  clear hL hS hO hA
  have z1 : (l1 == l1) = true := by simp
  have z2 : (l2 == l2) = true := by simp
  have z3 : (s1 == s1) = true := by simp
  have z4 : (s2 == s2) = true := by simp
  have z5 : (s3 == s3) = true := by simp
  have z6 : (o1 == o1) = true := by simp
  have z7 : (o2 == o2) = true := by simp
  rcases (show b1 = false ∨ (b1 = true ∧ b2 = false) ∨ (b1 = true ∧ b2 = true) by cases b1 <;> cases b2 <;> simp) with rfl | ⟨rfl, rfl⟩ | ⟨rfl, rfl⟩ <;>
  rcases (show b3 = false ∨ (b3 = true ∧ b4 = false) ∨ (b3 = true ∧ b4 = true) by cases b3 <;> cases b4 <;> simp) with rfl | ⟨rfl, rfl⟩ | ⟨rfl, rfl⟩ <;>
  simp only [Bool.and_true, Bool.and_false, Bool.and_self, true_implies, reduceCtorEq, false_implies, Bool.true_and, Bool.false_and] at hr hn hn2 hd1 hd2
  all_goals first | (obtain ⟨g1, g2⟩ := hr) | skip
  all_goals first | (subst hn2) | skip
  all_goals first | (subst hd2) | skip
  all_goals
    go_enter Try.func11, Try.ntmps11
    go_wp2_with fail
    refine (near_any _ _ w0).mono ?_
    rintro e w' ⟨rfl, rfl⟩
    rw [HF.out]
    go_wp2_with fail
    refine (near_any _ _ w3).mono ?_
    rintro e w' ⟨rfl, rfl⟩
    rw [HD.out]
    go_wp2_with fail
    refine (last_any _ _ _).mono ?_
    rintro e v1 ⟨rfl, hb1⟩
    rw [HL.out]
    go_wp2_with fail
    refine (refLast_any _ _ _).mono ?_
    rintro e v2 ⟨rfl, hb2⟩
    rw [HL.out]
    have hb2' := hb1.trans (hb2.mono hb1.size)
    clear hb1 hb2
    go_wp2_with fail
    refine (span_any _ _ _ _).mono ?_
    rintro e v3 ⟨rfl, hb3⟩
    rw [HS.out]
    unfold spanV
    have K1 := Lib.hid (Blk.new v3 39 (scells s1 s2))
    have hb3' := (hb2'.trans (hb3.mono hb2'.size)).alloc (Nat.le_trans hb2'.size hb3.size) (.cells (scells s1 s2) 39)
    have HB3 := Lib.hid hb3'
    clear hb2' hb3 hb3'
    go_wp2_with fail
    refine (refSpan_any _ _ _ _).mono ?_
    rintro e v4 ⟨rfl, hb4⟩
    rw [HS.out]
    unfold spanV
    have j1 := K1.out.below hb4 K1.out.lt
    have K1 := Lib.hid (j1.alloc (.cells (scells s1 s2) 39))
    have K2 := Lib.hid (Blk.new v4 39 (scells s1 s2))
    have hb4' := (HB3.out.trans (hb4.mono HB3.out.size)).alloc (Nat.le_trans HB3.out.size hb4.size) (.cells (scells s1 s2) 39)
    have HB4 := Lib.hid hb4'
    clear hb4 hb4' HB3 j1
    go_wp2_with fail
    refine (of_any _ _ _ _).mono ?_
    rintro e v5 ⟨rfl, hb5⟩
    rw [HO.out]
    have K1 := Lib.hid (K1.out.below hb5 K1.out.lt)
    have K2 := Lib.hid (K2.out.below hb5 K2.out.lt)
    have HB5 := Lib.hid (HB4.out.trans (hb5.mono HB4.out.size))
    clear hb5 HB4
    go_wp2_with fail
    refine (refOf_any _ _ _ _).mono ?_
    rintro e v6 ⟨rfl, hb6⟩
    rw [HO.out]
    have K1 := Lib.hid (K1.out.below hb6 K1.out.lt)
    have K2 := Lib.hid (K2.out.below hb6 K2.out.lt)
    have HB6 := Lib.hid (HB5.out.trans (hb6.mono HB5.out.size))
    clear hb6 HB5
    go_wp2_with fail
    refine (awake03 _).mono ?_
    rintro e v7 ⟨rfl, hb7⟩
    have k1 := K1.out.below hb7 K1.out.lt
    have k2 := K2.out.below hb7 K2.out.lt
    have HB7 := Lib.hid (HB6.out.trans (hb7.mono HB6.out.size))
    have c10 := scell0 k1
    have c11 := scell1 k1
    have c20 := scell0 k2
    have c21 := scell1 k2
    clear hb7 HB6 k1 k2 K1 K2
    go_wp2_with fail
    refine (all_any _ _ _ _).mono ?_
    rintro e v8 ⟨A1, cap1, rfl, hown, hb8⟩
    rw [HA.out] at hown ⊢
    have HB8 := Lib.hid (HB7.out.trans (hb8.mono HB7.out.size))
    have HW8 := Lib.hid hown
    clear hb8 hown HB7
    go_wp2_with fail
    refine (refAll_any _ _ _ _).mono ?_
    rintro e v9 ⟨A2, cap2, rfl, hown, hb9⟩
    rw [HA.out] at hown ⊢
    have HB9 := Lib.hid (HB8.out.trans (hb9.mono HB8.out.size))
    have hown1 := own_below HW8.out hb9
    clear hb9 HB8
    obtain ⟨_, _, q1, r1⟩ := own_form hown1
    obtain ⟨_, _, q2, r2⟩ := own_form hown
    injection q1 with q1 _ _
    injection q2 with q2 _ _
    subst q1 q2
    clear hown1 hown
    go_wp2_with fail
    refine (plainSpan_eq _ _ _ _ _ _ _ A _ r1 r2 rfl (Nat.le_refl _) (Nat.le_refl _) (by unfold maxLen; omega)).mono ?_
    rintro e v10 ⟨rfl, hb10⟩
    go_wp2_with fail
    go_ret
    exact ⟨rfl, HB9.out.trans (hb10.mono HB9.out.size)⟩

theorem cycleTells_walk (a0 a1 a2 a3 : Int) (w : World) (w0 : (Lit.int .i64 a0).wf = true) (w1 : (Lit.int .i64 a1).wf = true) (w2 : (Lit.int .i64 a2).wf = true) (w3 : (Lit.int .i64 a3).wf = true) : Calls Try.prog 11 #[.int .i64 a0, .int .i64 a1, .int .i64 a2, .int .i64 a3] w fun e w' => e = .returned (.bool true) ∧ Below w.heap.size w w' := by
  obtain ⟨n, hn, hn2⟩ : ∃ n : Int, ((decide (40 < a2) && decide (a2 ≤ 300)) = true → 1 + a2 % 40 = n) ∧ ((decide (40 < a2) && decide (a2 ≤ 300)) = false → a2 = n) := by
    cases (decide (40 < a2) && decide (a2 ≤ 300))
    · exact ⟨a2, (fun h => by cases h), fun _ => rfl⟩
    · exact ⟨_, fun _ => rfl, (fun h => by cases h)⟩
  obtain ⟨x, hx, hx2⟩ : ∃ x : Int, ((decide (wrap64 (Cal.near a0 + 1500) < Cal.near a3) && decide (Cal.near a3 ≤ 2932896)) = true → wrap64 (Cal.near a0 + (Cal.near a3).tmod 1500) = x) ∧ ((decide (wrap64 (Cal.near a0 + 1500) < Cal.near a3) && decide (Cal.near a3 ≤ 2932896)) = false → Cal.near a3 = x) := by
    cases (decide (wrap64 (Cal.near a0 + 1500) < Cal.near a3) && decide (Cal.near a3 ≤ 2932896))
    · exact ⟨_, (fun h => by cases h), fun _ => rfl⟩
    · exact ⟨_, fun _ => rfl, (fun h => by cases h)⟩
  exact tells_core _ _ _ _ a0 a2 a3 _ a1 _ _ n x w w0 w3 rfl rfl rfl rfl rfl rfl rfl hn hn2 hx hx2
end Go.Proofs.Ytbkbeblogfakjaa
