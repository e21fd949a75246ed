/- The walk of the law CycleEach. -/
import Derived.Test.YtbkbeblogfakjaaCycChain
import Derived.Test.YtbkbeblogfakjaaLater
import Derived.OpenShut
namespace Go.Proofs.Ytbkbeblogfakjaa
open Go.RowKit
set_option linter.unusedVariables false
set_option linter.unusedSimpArgs false

set_option maxRecDepth 100000 in
set_option maxHeartbeats 8000000 in
theorem each_core (F C D x y : Int) (k : Nat) (R : List (Int × Int)) (a0 a1 a2 u0 u1 u2 : Int) (r0 r1 r2 : Nat) (w : World)
    (p0 : -9223372036854775808 ≤ a0) (p1 : a0 ≤ 9223372036854775807) (p2 : -9223372036854775808 ≤ a1) (p3 : a1 ≤ 9223372036854775807) (p4 : -9223372036854775808 ≤ a2) (p5 : a2 ≤ 9223372036854775807)
    (hu0 : IntKind.u64.wrap a0 = u0) (hu1 : IntKind.u64.wrap a1 = u1) (hu2 : IntKind.u64.wrap a2 = u2) (g0 : 0 ≤ u0) (g1 : u0 ≤ 18446744073709551615) (g2 : 0 ≤ u1) (g3 : u1 ≤ 18446744073709551615) (g4 : 0 ≤ u2) (g5 : u2 ≤ 18446744073709551615)
    (hr0 : u0 % 3000 = r0) (hr1 : u1 % 28 = r1) (hr2 : u2 % 700 = r2) (q0 : (r0 : Int) < 3000) (q1 : (r1 : Int) < 28) (q2 : (r2 : Int) < 700)
    (hF : 10957 + (r0 : Int) = F) (hC : 1 + (r1 : Int) = C) (hD : F + (r2 : Int) = D)
    (hO : Cal.ofR F C D = ((k : Int) + 1, 0)) (hS : Cal.spanR F C ((k : Int) + 1) = ((x, y), 0)) (hA : Cal.allR F C D = R) (hlen : R.length = k + 1) (hk : k ≤ 300) (hlast : R.getD k (0, 0) = (x, y)) (hx : x ≤ D) (hy : D ≤ y) (hfirst : (R.getD 0 (0, 0)).1 = F)
    (hat : ∀ i, i < k + 1 → -135140 ≤ (R.getD i (0, 0)).1 ∧ (R.getD i (0, 0)).1 ≤ 2932896 ∧ (R.getD i (0, 0)).1 ≤ (R.getD i (0, 0)).2 ∧ (R.getD i (0, 0)).2 ≤ 2932896)
    (hnext : ∀ j, j + 1 < k + 1 → (R.getD (j + 1) (0, 0)).1 = (R.getD j (0, 0)).2 + 1 ∧ (Cal.dateF (R.getD (j + 1) (0, 0)).1).2.2 = C ∧ (R.getD (j + 1) (0, 0)).1 + 27 ≤ (R.getD (j + 1) (0, 0)).2 ∧ (R.getD (j + 1) (0, 0)).2 ≤ (R.getD (j + 1) (0, 0)).1 + 30) :
    Calls Try.prog 12 #[.int .i64 a0, .int .i64 a1, .int .i64 a2] w fun e w' => e = .returned (.bool true) ∧ Below w.heap.size w w' := by
  have HO := Lib.hid hO
  have HS := Lib.hid hS
  have HA := Lib.hid hA
  have HLN := Lib.hid hlen
  have HLA := Lib.hid hlast
  have HFI := Lib.hid hfirst
  have HAT := Lib.hid hat
  have HNX := Lib.hid hnext
  clear hO hS hA hlen hlast hfirst hat hnext
  have d1 : decide (D < x) = false := by simp; omega
  have d2 : decide (y < D) = false := by simp; omega
  have z1 : (x == x) = true := by simp
  have z2 : (y == y) = true := by simp
  have z3 : (F == F) = true := by simp
  have z4 : (C == C) = true := by simp
  have z5 : (((k : Int) + 1) == (k : Int) + 1) = true := by simp
  have z6 : decide ((k : Int) + 1 < 1) = false := decide_eq_false (by omega)
  have z7 : decide ((k : Int) < 0) = false := decide_eq_false (by omega)
  go_enter Try.func12, Try.ntmps12
  go_wp2_with fail
  refine (of_any _ _ _ _).mono ?_
  rintro e v1 ⟨rfl, hb1⟩
  rw [HO.out]
  go_wp2_with fail
  refine (span_any _ _ _ _).mono ?_
  rintro e v2 ⟨rfl, hb2⟩
  rw [HS.out]
  unfold spanV
  have K1 := Lib.hid (Blk.new v2 39 (scells x y))
  have HB2 := Lib.hid ((hb1.trans (hb2.mono hb1.size)).alloc (Nat.le_trans hb1.size hb2.size) (.cells (scells x y) 39))
  clear hb1 hb2
  go_wp2_with fail
  refine (all_any _ _ _ _).mono ?_
  rintro e v3 ⟨A, cap, rfl, hown, hb3⟩
  rw [HA.out] at hown ⊢
  rw [HLN.out] at hown ⊢
  have HB3 := Lib.hid (HB2.out.trans (hb3.mono HB2.out.size))
  have k1 := K1.out.below hb3 K1.out.lt
  clear hb3 HB2 K1
  obtain ⟨_, _, qq, hre⟩ := own_form hown
  injection qq with qq _ _
  subst qq
  clear hown
  obtain ⟨b, o, rfl, hbk, c0, c1⟩ := spans_at hre HLN.out (show k < k + 1 by omega)
  obtain ⟨b', o', e', _, c2, _⟩ := spans_at hre HLN.out (show 0 < k + 1 by omega)
  injection e' with e'
  injection e' with e1 e2
  subst e1 e2
  rw [HLA.out] at c0 c1
  rw [HFI.out] at c2
  simp only [Nat.zero_mul, Nat.add_zero] at c2
  have s0 := scell0 k1
  have s1 := scell1 k1
  have C0 : ∀ x' : Later v3.heap.size v3, x'.w.cell? ⟨b, o + k * 2, none⟩ = some (.int .i64 x) := fun x' => x'.cell hbk c0
  have C1 : ∀ x' : Later v3.heap.size v3, x'.w.cell? ⟨b, o + k * 2 + 1, none⟩ = some (.int .i64 y) := fun x' => x'.cell hbk c1
  have C2 : ∀ x' : Later v3.heap.size v3, x'.w.cell? ⟨b, o, none⟩ = some (.int .i64 F) := fun x' => x'.cell hbk c2
  have S0 : ∀ x' : Later v3.heap.size v3, x'.w.cell? ⟨v2.heap.size, 0, none⟩ = some (.int .i64 x) := fun x' => x'.cell k1.lt s0
  have S1 : ∀ x' : Later v3.heap.size v3, x'.w.cell? ⟨v2.heap.size, 1, none⟩ = some (.int .i64 y) := fun x' => x'.cell k1.lt s1
  have HRE := Lib.hid hre
  clear hre k1 c0 c1 c2 s0 s1
  go_wp2_with fail
  refine wp_region_later v3.heap.size (by kernel_rfl) (by kernel_rfl) ?_
  repeat (go_big_quiet_step (first | (go_at_call 28; exact later_below (Nat.le_refl _) (awake03 _))))
  refine wpQuiet_nil ?_
  intro _ hw'
  obtain ⟨X, rfl⟩ := hw'
  have hre : Reads X.w v3.heap.size 2 (some ⟨b, o, none⟩) (k + 1) (spanCells R) := HRE.out.below X.below
  have hbX := HB3.out.trans (X.below.mono HB3.out.size)
  have hszX := X.below.size
  clear C0 C1 C2 S0 S1 HRE HB3
  generalize X.w = W at *
  clear X
  go_wp2_with fail
  go_loopw [12] (fun i wr => ∃ j : Nat, i = .int .i64 j ∧ j ≤ k + 1 ∧ Below w.heap.size w wr ∧ Below v3.heap.size W wr ∧ v3.heap.size ≤ wr.heap.size) (fun i _ => k + 1 - (intOf i).toNat)
  case atStart => exact ⟨0, rfl, by omega, hbX, Below.refl _ _, hszX⟩
  case round =>
    obtain ⟨j, rfl, hj, hbel, hbel3, hsz⟩ := hrel
    have HB := Lib.hid hbel
    have HB3 := Lib.hid hbel3
    have hrw := hre.below hbel3
    have hws := hbel.size
    clear hbX hbel hbel3 hre d1 d2 z1 z2 z3 z5 z6 z7
    by_cases hlt : j < k + 1
    · have hat := HAT.out j hlt
      obtain ⟨b', o', e', _, c0, c1⟩ := spans_at hrw HLN.out hlt
      injection e' with e'
      injection e' with e1 e2
      subst e1 e2
      cases j with
      | zero =>
        generalize R.getD 0 (0, 0) = p at *
        obtain ⟨f', l'⟩ := p
        dsimp only at hat c0 c1
        have hd := Cal.dateR_in hat.1 hat.2.1
        generalize Cal.dateF f' = Dt at *
        obtain ⟨yy, mm, dd⟩ := Dt
        have HDR := Lib.hid hd
        clear hd hrw
        simp only [Nat.zero_mul, Nat.add_zero] at c0 c1
        go_wp2_with fail
        refine (refDate_any _ _).mono ?_
        rintro e v5 ⟨rfl, hb5⟩
        rw [HDR.out]
        have hbA := (HB.out.trans (hb5.mono hws)).alloc (Nat.le_trans hws hb5.size) (.cells (dcells yy mm dd) 27)
        have hb3A := (HB3.out.trans (hb5.mono hsz)).alloc (Nat.le_trans hsz hb5.size) (.cells (dcells yy mm dd) 27)
        have hs5 : v3.heap.size ≤ (v5.alloc (.cells (dcells yy mm dd) 27)).heap.size := by have := hb5.size; simp; omega
        have HA := Lib.hid hbA
        have HA3 := Lib.hid hb3A
        have HS5 := Lib.hid hs5
        clear hb5 hbA hb3A hs5 HB HB3
        go_wp2_with fail
        go_quiet (fail)
        go_wp2_with fail
        go_roundw
        case rel => exact ⟨1, by go_num, by omega, HA.out.trans ((Quiet.drewN _ _).below _), HA3.out.trans ((Quiet.drewN _ _).below _), HS5.out⟩
        case measure => simp [intOf]
      | succ j =>
        obtain ⟨n1, n2, n3, n4⟩ := HNX.out j (by omega)
        obtain ⟨b', o', e', _, c2, c3⟩ := spans_at hrw HLN.out (show j < k + 1 by omega)
        injection e' with e'
        injection e' with e1 e2
        subst e1 e2
        have hat2 := HAT.out j (by omega)
        generalize R.getD (j + 1) (0, 0) = p at *
        generalize R.getD j (0, 0) = q at *
        obtain ⟨f', l'⟩ := p
        obtain ⟨f0, l0⟩ := q
        dsimp only at hat c0 c1 c2 c3 n1 n2 n3 n4 hat2
        subst n1
        have hd := Cal.dateR_in hat.1 hat.2.1
        generalize Cal.dateF (l0 + 1) = Dt at *
        obtain ⟨yy, mm, dd⟩ := Dt
        dsimp only at n2
        subst n2
        have HDR := Lib.hid hd
        have y1 : decide (l' - (l0 + 1) < 27) = false := decide_eq_false (by omega)
        have y2 : decide (30 < l' - (l0 + 1)) = false := decide_eq_false (by omega)
        have y3 : (l0 + 1 == l0 + 1) = true := by simp
        have y4 : (dd == dd) = true := by simp
        have y5 : decide ((0 : Int) < (j : Int) + 1) = true := decide_eq_true (by omega)
        obtain ⟨t1, t2, t3, t4⟩ := hat
        obtain ⟨t5, t6, t7, t8⟩ := hat2
        clear hd hrw
        go_wp2_with fail
        refine (refDate_any _ _).mono ?_
        rintro e v5 ⟨rfl, hb5⟩
        rw [HDR.out]
        have hbA := (HB.out.trans (hb5.mono hws)).alloc (Nat.le_trans hws hb5.size) (.cells (dcells yy mm dd) 27)
        have hb3A := (HB3.out.trans (hb5.mono hsz)).alloc (Nat.le_trans hsz hb5.size) (.cells (dcells yy mm dd) 27)
        have hs5 : v3.heap.size ≤ (v5.alloc (.cells (dcells yy mm dd) 27)).heap.size := by have := hb5.size; simp; omega
        have HA := Lib.hid hbA
        have HA3 := Lib.hid hb3A
        have HS5 := Lib.hid hs5
        have cl : ∀ p : Addr, p.block < v3.heap.size → v5.cell? p = wr.cell? p ∧ (v5.alloc (.cells (dcells yy mm dd) 27)).cell? p = wr.cell? p := fun p hp => ⟨hb5.cell (by omega), (World.cell?_alloc_lt v5 _ p (by have := hb5.size; omega)).trans (hb5.cell (by omega))⟩
        have e0 := (cl _ hbk).1.trans c0
        have e1 := (cl _ hbk).1.trans c1
        have e2 := (cl _ hbk).1.trans c2
        have e3 := (cl _ hbk).1.trans c3
        have f0 := (cl _ hbk).2.trans c0
        have f1 := (cl _ hbk).2.trans c1
        have f2 := (cl _ hbk).2.trans c2
        have f3 := (cl _ hbk).2.trans c3
        have hlb : b < v5.heap.size := by have := hb5.size; omega
        have kd := Blk.new v5 27 (dcells yy mm dd)
        have kd2 := dcell2 kd
        clear hb5 hbA hb3A hs5 HB HB3 cl kd c0 c1 c2 c3
        go_wp2_with fail
        go_quiet (fail)
        go_wp2_with fail
        go_roundw
        case rel => exact ⟨j + 1 + 1, by go_num, by omega, HA.out.trans ((Quiet.drewN _ _).below _), HA3.out.trans ((Quiet.drewN _ _).below _), HS5.out⟩
        case measure => simp [intOf]; omega
    · clear hrw
      go_wp2_with fail
      go_ret
      exact ⟨rfl, HB.out⟩

theorem cycleEach_walk (a0 a1 a2 : Int) (w : World) (w0 : (Lit.int .i64 a0).wf = true) (w1 : (Lit.int .i64 a1).wf = true) (w2 : (Lit.int .i64 a2).wf = true) : Calls Try.prog 12 #[.int .i64 a0, .int .i64 a1, .int .i64 a2] w fun e w' => e = .returned (.bool true) ∧ Below w.heap.size w w' := by
  obtain ⟨p0, p1⟩ := bounds_i64 w0
  obtain ⟨p2, p3⟩ := bounds_i64 w1
  obtain ⟨p4, p5⟩ := bounds_i64 w2
  obtain ⟨u0, r0, hu0, u0a, u0b, hr0, r0a⟩ := u64_rest a0 3000 (by omega)
  obtain ⟨u1, r1, hu1, u1a, u1b, hr1, r1a⟩ := u64_rest a1 28 (by omega)
  obtain ⟨u2, r2, hu2, u2a, u2b, hr2, r2a⟩ := u64_rest a2 700 (by omega)
  obtain ⟨F, hF⟩ : ∃ F : Int, 10957 + (r0 : Int) = F := ⟨_, rfl⟩
  obtain ⟨C, hC⟩ : ∃ C : Int, 1 + (r1 : Int) = C := ⟨_, rfl⟩
  obtain ⟨D, hD⟩ : ∃ D : Int, F + (r2 : Int) = D := ⟨_, rfl⟩
  have hfound := Cal.findL_found' (c := C) (d := D) (f := F) (by omega) (by omega) (by omega) (by omega) (by omega) (by omega)
  have hchain := Cal.findL_chain C D 300 F
  have hl3 := Cal.findL_len C D 300 F
  obtain ⟨k, k1, k2, k3, k4⟩ := Cal.findL_last 300 F hfound
  obtain ⟨hL, _, _⟩ := Cal.lastR_near (f := F) (c := C) (by omega) (by omega) (by omega) (by omega)
  have hO := Cal.ofR_in hL hfound
  have hA := Cal.allR_in hfound
  have hS := Cal.spanR_in hL (n := (k : Int) + 1) (by omega) (by omega)
  rw [show ((k : Int) + 1 - 1).toNat = k by omega, k4] at hS
  rw [k1] at hO
  generalize (Cal.findL C D 300 F).1 = R at *
  have hfirst : (R.getD 0 (0, 0)).1 = F := by
    cases R with
    | nil => simp at k1
    | cons p r => exact hchain.1
  refine each_core F C D (R.getD k (0, 0)).1 (R.getD k (0, 0)).2 k R a0 a1 a2 u0 u1 u2 r0 r1 r2 w p0 p1 p2 p3 p4 p5 hu0 hu1 hu2 u0a u0b u1a u1b u2a u2b hr0 hr1 hr2 r0a r1a r2a hF hC hD (by rw [hO]; simp) hS hA k1 (by omega) rfl k2 k3 hfirst ?_ ?_
  · intro i hi
    have h := Cal.chain_at R F i hchain (by omega)
    obtain ⟨y1, y2, y3, y4, y5, y6⟩ := Cal.lastR_inv h
    obtain ⟨y7, y8⟩ := Cal.lastV_ge (f := (R.getD i (0, 0)).1) (cd := C) y1 y2 y3 y4
    exact ⟨y3, y4, by omega, y6⟩
  · intro j hj
    have h := Cal.chain_at R F j hchain (by omega)
    have h' := Cal.chain_at R F (j + 1) hchain (by omega)
    have hn := Cal.chain_next R F j hchain (by omega)
    have hd := Cal.next_day h
    rw [← hn] at hd
    obtain ⟨y1, y2, y3, y4, y5, y6⟩ := Cal.lastR_inv h'
    have hf := Cal.lastV_full y3 y4 hd
    rw [← y5] at hf
    exact ⟨hn, hd, hf.1, hf.2⟩
end Go.Proofs.Ytbkbeblogfakjaa
