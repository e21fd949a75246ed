/- The walk of the law CycleFirst. -/
import Derived.Test.YtbkbeblogfakjaaCycSpan2
import Derived.Test.YtbkbeblogfakjaaCycEnds
namespace Go.Proofs.Ytbkbeblogfakjaa
open Go.RowKit
set_option linter.unusedVariables false
set_option linter.unusedSimpArgs false

/-- A day of a cycle has the same last day as the cycle's first. -/
theorem Cal.lastV_same {f d c : Int} (h1 : 1 ≤ c) (h2 : c ≤ 28) (h3 : -135140 ≤ f) (h4 : f ≤ 2932896) (h5 : f ≤ d) (h6 : d ≤ lastV f c) (h7 : d ≤ 2932896) : lastV d c = lastV f c := by
  have a := lastV_ge (f := d) (cd := c) h1 h2 (by omega) h7
  rcases Int.le_total (lastV d c) (lastV f c) with h | h
  · have e1 := day_iff (f := d) (n := lastV d c) h1 h2 (by omega) h7 a.1 (Int.le_refl _)
    exact (day_iff (f := f) (n := lastV d c) h1 h2 h3 h4 (by omega) h).1 (e1.2 rfl)
  · have e1 := day_iff (f := f) (n := lastV f c) h1 h2 h3 h4 (by omega) (Int.le_refl _)
    exact ((day_iff (f := d) (n := lastV f c) h1 h2 (by omega) h7 h6 h).1 (e1.2 rfl)).symm
theorem Cal.lastR_near {f c : Int} (h1 : 1 ≤ c) (h2 : c ≤ 28) (h3 : -135140 ≤ f) (h4 : f + 31 ≤ 2932896) : Cal.lastR f c = (Cal.lastV f c, 0) ∧ f ≤ Cal.lastV f c ∧ Cal.lastV f c ≤ f + 30 := by
  have a := lastV_ge (f := f) (cd := c) h1 h2 h3 (by omega)
  exact ⟨Cal.lastR_ok (by omega) (by omega) (by omega), a⟩
theorem Cal.spanN_near {c : Int} (h1 : 1 ≤ c) (h2 : c ≤ 28) : ∀ (k : Nat) (f : Int), -135140 ≤ f → f + 31 * ((k : Int) + 1) ≤ 2932896 → (Cal.spanN c k f).2 = 0 := by
  intro k
  induction k with
  | zero =>
    intro f h3 h4
    obtain ⟨a, b, d⟩ := Cal.lastR_near (f := f) (c := c) h1 h2 h3 (by omega)
    rw [Cal.spanN, a, if_pos rfl]
  | succ k ih =>
    intro f h3 h4
    obtain ⟨a, b, d⟩ := Cal.lastR_near (f := f) (c := c) h1 h2 h3 (by omega)
    rw [Cal.spanN, a, if_pos rfl]
    exact ih _ (by omega) (by omega)

set_option maxRecDepth 100000 in
set_option maxHeartbeats 2000000 in
theorem cycleFirst_walk (a0 a1 a2 a3 : Int) (w : World) (w0 : (Lit.int .i64 a0).wf = true) (w1 : (Lit.int .i64 a1).wf = true) (w2 : (Lit.int .i64 a2).wf = true) (w3 : (Lit.int .i64 a3).wf = true) : Calls Try.prog 10 #[.int .i64 a0, .int .i64 a1, .int .i64 a2, .int .i64 a3] w fun e w' => e = .returned (.bool true) ∧ Below w.heap.size w w' := by
  obtain ⟨p0, q0⟩ := bounds_i64 w0
  obtain ⟨p1, q1⟩ := bounds_i64 w1
  obtain ⟨p2, q2⟩ := bounds_i64 w2
  obtain ⟨p3, q3⟩ := bounds_i64 w3
  obtain ⟨u0, r0, hu0, u0a, u0b, hr0, r0a⟩ := u64_rest a0 3000 (by omega)
  obtain ⟨u1, r1, hu1, u1a, u1b, hr1, r1a⟩ := u64_rest a1 28 (by omega)
  obtain ⟨u3, r3, hu3, u3a, u3b, hr3, r3a⟩ := u64_rest a3 20 (by omega)
  obtain ⟨F, hF⟩ : ∃ F : Int, 10957 + (r0 : Int) = F := ⟨_, rfl⟩
  obtain ⟨C, hC⟩ : ∃ C : Int, 1 + (r1 : Int) = C := ⟨_, rfl⟩
  obtain ⟨K, hK⟩ : ∃ K : Int, 2 + (r3 : Int) = K := ⟨_, rfl⟩
  obtain ⟨n1, n2, n3⟩ := Cal.lastR_near (f := F) (c := C) (by omega) (by omega) (by omega) (by omega)
  have hsame := fun d h1 h2 => Cal.lastV_same (f := F) (d := d) (c := C) (by omega) (by omega) (by omega) (by omega) h1 h2 (by omega)
  obtain ⟨L, hL⟩ : ∃ L : Int, Cal.lastV F C = L := ⟨_, rfl⟩
  rw [hL] at n1 n2 n3
  obtain ⟨M, hM⟩ : ∃ M : Int, L - F + 1 = M := ⟨_, rfl⟩
  obtain ⟨u2, r2, hu2, u2a, u2b, hr2, r2a⟩ := u64_rest a2 M (by omega)
  obtain ⟨D, hD⟩ : ∃ D : Int, F + (r2 : Int) = D := ⟨_, rfl⟩
  have m1 : Cal.lastR D C = (L, 0) := by
    rw [(Cal.lastR_near (f := D) (c := C) (by omega) (by omega) (by omega) (by omega)).1, hsame D (by omega) (by rw [hL]; omega), hL]
  have s1 : Cal.spanR F C 1 = ((F, L), 0) := by rw [Cal.spanR_in n1 (by omega) (by omega)]; show Cal.spanN C 0 F = _; rw [Cal.spanN, n1, if_pos rfl]
  have s2 : Cal.spanR D C 1 = ((D, L), 0) := by rw [Cal.spanR_in m1 (by omega) (by omega)]; show Cal.spanN C 0 D = _; rw [Cal.spanN, m1, if_pos rfl]
  have hk : (K - 1).toNat = (K - 2).toNat + 1 := by omega
  have s3 : Cal.spanR F C K = Cal.spanN C (K - 2).toNat (L + 1) := by rw [Cal.spanR_in n1 (by omega) (by omega), hk, Cal.spanN, n1, if_pos rfl]
  have s4 : Cal.spanR D C K = Cal.spanN C (K - 2).toNat (L + 1) := by rw [Cal.spanR_in m1 (by omega) (by omega), hk, Cal.spanN, m1, if_pos rfl]
  have hz := Cal.spanN_near (c := C) (by omega) (by omega) (K - 2).toNat (L + 1) (by omega) (by omega)
  generalize Cal.spanN C (K - 2).toNat (L + 1) = N at *
  obtain ⟨⟨x, y⟩, z⟩ := N
  dsimp only at hz
  subst hz
  have S1 := Lib.hid s1
  have S2 := Lib.hid s2
  have S3 := Lib.hid s3
  have S4 := Lib.hid s4
  have d1 : (F == F) = true := by simp
  have d2 : decide (L < F) = false := by simp; omega
  have d3 : decide (F + 30 < L) = false := by simp; omega
  have d4 : (D == D) = true := by simp
  have d5 : (L == L) = true := by simp
  have d6 : (x == x) = true := by simp
  have d7 : (y == y) = true := by simp
  clear s1 s2 s3 s4 hk m1 n1 hsame hL
  go_enter Try.func10, Try.ntmps10
  go_wp2_with fail
  refine (span_any _ _ _ _).mono ?_
  rintro e v1 ⟨rfl, hb1⟩
  rw [S1.out]
  unfold spanV
  have k1 := Blk.new v1 39 (scells F L)
  have hb1' := hb1.alloc hb1.size (.cells (scells F L) 39)
  have e1 := hb1.size
  have K1 := Lib.hid k1
  have HB1 := Lib.hid hb1'
  clear k1 hb1 hb1'
  go_wp2_with fail
  refine (awake03 _).mono ?_
  rintro e v2 ⟨rfl, hb2⟩
  have k1 := K1.out.below hb2 (by simp)
  have hb2' := HB1.out.trans (hb2.mono (by simp; omega))
  have c10 := scell0 k1
  have c11 := scell1 k1
  have K1 := Lib.hid k1
  have HB2 := Lib.hid hb2'
  clear k1 hb2 hb2' HB1
  go_wp2_with fail
  refine (span_any _ _ _ _).mono ?_
  rintro e v3 ⟨rfl, hb3⟩
  rw [S2.out]
  unfold spanV
  have k1 := (K1.out.below hb3 K1.out.lt).alloc (.cells (scells D L) 39)
  have k2 := Blk.new v3 39 (scells D L)
  have hb3' := (HB2.out.trans (hb3.mono HB2.out.size)).alloc (Nat.le_trans HB2.out.size hb3.size) (.cells (scells D L) 39)
  have K1 := Lib.hid k1
  have K2 := Lib.hid k2
  have HB3 := Lib.hid hb3'
  clear k1 k2 hb3 hb3' HB2 c10 c11
  go_wp2_with fail
  refine (span_any _ _ _ _).mono ?_
  rintro e v4 ⟨rfl, hb4⟩
  rw [S3.out]
  unfold spanV
  have k1 := (K1.out.below hb4 K1.out.lt).alloc (.cells (scells x y) 39)
  have k2 := (K2.out.below hb4 K2.out.lt).alloc (.cells (scells x y) 39)
  have k3 := Blk.new v4 39 (scells x y)
  have hb4' := (HB3.out.trans (hb4.mono HB3.out.size)).alloc (Nat.le_trans HB3.out.size hb4.size) (.cells (scells x y) 39)
  have K1 := Lib.hid k1
  have K2 := Lib.hid k2
  have K3 := Lib.hid k3
  have HB4 := Lib.hid hb4'
  clear k1 k2 k3 hb4 hb4' HB3
  go_wp2_with fail
  refine (span_any _ _ _ _).mono ?_
  rintro e v5 ⟨rfl, hb5⟩
  rw [S4.out]
  unfold spanV
  have k1 := (K1.out.below hb5 K1.out.lt).alloc (.cells (scells x y) 39)
  have k2 := (K2.out.below hb5 K2.out.lt).alloc (.cells (scells x y) 39)
  have k3 := (K3.out.below hb5 K3.out.lt).alloc (.cells (scells x y) 39)
  have j1 := K1.out.below hb5 K1.out.lt
  have j2 := K2.out.below hb5 K2.out.lt
  have j3 := K3.out.below hb5 K3.out.lt
  have b10 := scell0 j1
  have b11 := scell1 j1
  have b20 := scell0 j2
  have b21 := scell1 j2
  have b30 := scell0 j3
  have b31 := scell1 j3
  have l1 := j1.lt
  have l2 := j2.lt
  have l3 := j3.lt
  have k4 := Blk.new v5 39 (scells x y)
  have hb5' := (HB4.out.trans (hb5.mono HB4.out.size)).alloc (Nat.le_trans HB4.out.size hb5.size) (.cells (scells x y) 39)
  have c10 := scell0 k1
  have c11 := scell1 k1
  have c20 := scell0 k2
  have c21 := scell1 k2
  have c30 := scell0 k3
  have c31 := scell1 k3
  have c40 := scell0 k4
  have c41 := scell1 k4
  have HB5 := Lib.hid hb5'
  clear k1 k2 k3 k4 j1 j2 j3 hb5 hb5' HB4
  go_wp2_with fail
  go_ret
  exact ⟨rfl, HB5.out⟩
end Go.Proofs.Ytbkbeblogfakjaa
