/- The walk of the law LeafOnce. -/
import Derived.Test.YtdjkkpefljapcaaLeafG
namespace Go.Proofs.Ytdjkkpefljapcaa
open Go.RowKit
set_option linter.unusedVariables false
set_option linter.unusedSimpArgs false

namespace Once
def p1 (n : Nat) (a : List Int) : Pd := ((Pd.new 5).put n ⟨1, a⟩).stroke
def p2 (n : Nat) (a : List Int) : Pd := (p1 n a).stroke.dry
def p3 (n : Nat) (a keep : List Int) : Pd := (p2 n a).drop keep
def p4 (n : Nat) (a keep : List Int) : Pd := (p3 n a keep).mend
def p5 (n : Nat) (a keep : List Int) : Pd := (p4 n a keep).stroke.put n Lf.zero
def p6 (n : Nat) (a b keep : List Int) : Pd := ((p5 n a keep).put n ⟨1, b⟩).stroke
theorem facts (n : Nat) (hn : n < 5) (a b keep : List Int) :
    (((Pd.new 5).at n).is = 0 ∧ (Pd.new 5).l.length = 5) ∧
    (((p1 n a).at n).is = 1 ∧ (p1 n a).l.length = 5 ∧ (p1 n a).down = false ∧ (p1 n a).snag = 0 ∧ (p1 n a).falls = 0) ∧
    (((p2 n a).at n).is = 2 ∧ (p2 n a).l.length = 5 ∧ (p2 n a).down = false ∧ (p2 n a).snag = 0 ∧ (p2 n a).falls = 0) ∧
    ((p3 n a keep).tell n = (a, true) ∧ (p3 n a keep).l.length = 5) ∧
    ((p4 n a keep).tell n = (a, true) ∧ (p4 n a keep).l.length = 5 ∧ (p4 n a keep).down = false ∧ (p4 n a keep).snag = 0 ∧ (p4 n a keep).falls = 1) ∧
    (((p5 n a keep).at n).is = 0 ∧ (p5 n a keep).l.length = 5 ∧ (p5 n a keep).down = false ∧ (p5 n a keep).snag = 0 ∧ (p5 n a keep).falls = 1) ∧
    wetN (p6 n a b keep).l = 1 := by
  have : n = 0 ∨ n = 1 ∨ n = 2 ∨ n = 3 ∨ n = 4 := by omega
  rcases this with rfl | rfl | rfl | rfl | rfl <;> exact ⟨⟨rfl, rfl⟩, ⟨rfl, rfl, rfl, rfl, rfl⟩, ⟨rfl, rfl, rfl, rfl, rfl⟩, ⟨rfl, rfl⟩, ⟨rfl, rfl, rfl, rfl, rfl⟩, ⟨rfl, rfl, rfl, rfl, rfl⟩, rfl⟩
end Once

set_option maxRecDepth 100000 in
set_option maxHeartbeats 2000000 in
theorem leafOnce_core (a0 u : Int) (n : Nat) (a1 a2 : List Int) (a3 : Option Addr) (len3 cap3 : Nat) (keep : List Int) (w : World) (p0 : -9223372036854775808 ≤ a0) (p1 : a0 ≤ 9223372036854775807)
    (hu : IntKind.u64.wrap a0 = u) (hu0 : 0 ≤ u) (hu1 : u ≤ 18446744073709551615) (hr : u % 5 = n) (hn : (n : Int) < 5) (w1 : a1.length = 48 ∧ isBytes a1) (w2 : a2.length = 48 ∧ isBytes a2)
    (hk : Nums .i64 w w.heap.size a3 len3 keep) (hwf : ∀ x ∈ keep, (Lit.int .i64 x).wf = true) (hl : len3 ≤ 30) :
    Calls Try.prog 6 #[.int .i64 a0, .agg (bArr a1), .agg (bArr a2), .slice a3 len3 cap3] w fun e w' => e = .returned (.bool true) ∧ Below w.heap.size w w' := by
  have hd : decide (30 < (len3 : Int)) = false := decide_eq_false (by omega)
  have F := Lib.hid (Once.facts n (by omega) a1 a2 keep)
  have hb0 : Below w.heap.size w ((w.alloc (.cells (bArr a1) 26)).alloc (.cells (bArr a2) 26)) := ((Below.refl _ _).alloc (Nat.le_refl _) _).alloc (by simp) _
  have hA0 : Blk ((w.alloc (.cells (bArr a1) 26)).alloc (.cells (bArr a2) 26)) w.heap.size 26 (bArr a1) := (Blk.new w 26 _).alloc _
  have hB0 : Blk ((w.alloc (.cells (bArr a1) 26)).alloc (.cells (bArr a2) 26)) (w.heap.size + 1) 26 (bArr a2) := Blk.new1 w _ 26 _
  have hK0 : Nums .i64 ((w.alloc (.cells (bArr a1) 26)).alloc (.cells (bArr a2) 26)) w.heap.size a3 len3 keep := hk.below hb0
  have A0 := Lib.hid hA0
  have B0 := Lib.hid hB0
  have K0 := Lib.hid hK0
  have L0 := Lib.hid hb0
  have hz0 := hb0.size
  have W1 := Lib.hid w1
  have W2 := Lib.hid w2
  clear hb0 hA0 hB0 hK0 hk w1 w2
  go_enter Try.func6, Try.ntmps6
  go_wp2_with fail
  generalize hW : (w.alloc (.cells (bArr a1) 26)).alloc (.cells (bArr a2) 26) = v0 at *
  clear hW
  refine (new_any 5 (by omega) (by omega) _).mono ?_
  rintro e v1 ⟨g, h, rfl, hp, h1, h2, hb⟩
  have hgh := hp.lt
  have S1 := Lib.hid (show Stands v0 v1 v0.heap.size g h (Pd.new 5) from ⟨hp, hb⟩)
  clear hp hb
  go_wp2_with fail
  refine (awake23 _).mono ?_
  rintro e v2 ⟨rfl, hb⟩
  have S2 := Lib.hid (S1.out.same (Nat.le_refl _) hb)
  have HA := Lib.hid (A0.out.below S2.out.2 A0.out.lt)
  clear hb S1 hu hr
  go_wp2_with (refine step_loadG 26 _ w.heap.size 0 (bArr a1) rfl rfl rfl HA.out.all _ Try.underlying26 rfl 48 Try.size26 (bArr_size W1.out.1) ?_)
  refine (ink_put n a1 0 S2.out.1 (by show (0 : Int) < 1000000000; omega) rfl (by rw [F.out.1.2]; omega) F.out.1.1 W1.out.1 W1.out.2 rfl).mono ?_
  rintro e v3 ⟨rfl, hp, ho⟩
  have S3 := Lib.hid (show Stands v0 v3 v0.heap.size g h (Once.p1 n a1) from S2.out.next h1 h2 (Nat.le_refl _) hp ho)
  have HB := Lib.hid (B0.out.below S3.out.2 B0.out.lt)
  clear hp ho S2 HA
  go_wp2_with (refine step_loadG 26 _ (w.heap.size + 1) 0 (bArr a2) rfl rfl rfl HB.out.all _ Try.underlying26 rfl 48 Try.size26 (bArr_size W2.out.1) ?_)
  refine (ink_state n a2 S3.out.1 F.out.2.1.2.2.1 (by rw [F.out.2.1.2.1]; omega) (by rw [F.out.2.1.1]; omega)).mono ?_
  rintro e v4 ⟨rfl, hb⟩
  have S4 := Lib.hid (S3.out.same (Nat.le_refl _) hb)
  clear hb S3 HB
  go_wp2_with fail
  refine (dry_up S4.out.1 (by rw [F.out.2.1.2.2.2.2]; omega) F.out.2.1.2.2.1 (by rw [F.out.2.1.2.2.2.1]; omega)).mono ?_
  rintro e v5 ⟨rfl, hp, ho⟩
  have S5 := Lib.hid (show Stands v0 v5 v0.heap.size g h (Once.p2 n a1) from S4.out.next h1 h2 (Nat.le_refl _) hp ho)
  have HB := Lib.hid (B0.out.below S5.out.2 B0.out.lt)
  clear hp ho S4
  go_wp2_with (refine step_loadG 26 _ (w.heap.size + 1) 0 (bArr a2) rfl rfl rfl HB.out.all _ Try.underlying26 rfl 48 Try.size26 (bArr_size W2.out.1) ?_)
  refine (ink_state n a2 S5.out.1 F.out.2.2.1.2.2.1 (by rw [F.out.2.2.1.2.1]; omega) (by rw [F.out.2.2.1.1]; omega)).mono ?_
  rintro e v6 ⟨rfl, hb⟩
  have S6 := Lib.hid (S5.out.same (Nat.le_refl _) hb)
  have HK := Lib.hid (K0.out.below (S6.out.2.mono hz0))
  have hs6 : v0.heap.size ≤ v6.heap.size := S6.out.2.size
  clear hb S5 HB
  go_wp2_with fail
  refine (drop_any S6.out.1 (by rw [F.out.2.2.1.2.2.2.2]; omega) a3 len3 cap3 w.heap.size keep (fun w' ho => ho.nums HK.out (by omega) (by omega) (by omega)) hwf (by omega)).mono ?_
  rintro e v7 ⟨rfl, hp, ho⟩
  have S7 := Lib.hid (show Stands v0 v7 v0.heap.size g h (Once.p3 n a1 keep) from S6.out.next h1 h2 (Nat.le_refl _) hp ho)
  clear hp ho S6 HK
  go_wp2_with fail
  refine (leaf_any n S7.out.1).mono ?_
  rintro e v8 ⟨rfl, hb⟩
  have S8 := Lib.hid (S7.out.same (Nat.le_refl _) hb)
  clear hb S7
  rw [F.out.2.2.2.1.1]
  have hX := w26_blk v8 a1 W1.out.1
  have S9 := Lib.hid (S8.out.same (Nat.le_refl _) (w26_below v8 a1))
  have hv8 : g < v8.heap.size ∧ h < v8.heap.size := S8.out.1.lt
  have hv8' : v0.heap.size ≤ v8.heap.size := S8.out.2.size
  clear S8
  generalize hW : w26 v8 a1 = v9 at *
  have HW := Lib.hid hW
  have X9 := Lib.hid hX
  clear hW hX
  dsimp only
  go_wp2_with (first | (with_reducible refine step_alloc 26 zArr Try.zero26 rfl rfl ?_) | (refine step_put26 (w := v8) a1 _ _ rfl rfl rfl rfl rfl W1.out.1 HW.out ?_))
  refine (mend_any S9.out.1).mono ?_
  rintro e va ⟨rfl, hp, ho⟩
  have SA := Lib.hid (show Stands v0 va v0.heap.size g h (Once.p4 n a1 keep) from S9.out.next h1 h2 (Nat.le_refl _) hp ho)
  have XA := Lib.hid (ho.blk X9.out (by omega) (by omega))
  clear hp ho S9 X9 HW
  go_wp2_with fail
  refine (leaf_any n SA.out.1).mono ?_
  rintro e vb ⟨rfl, hb⟩
  have SB := Lib.hid (SA.out.same (Nat.le_refl _) hb)
  have XB := Lib.hid (XA.out.below hb XA.out.lt)
  clear hb SA XA
  rw [F.out.2.2.2.2.1.1]
  have hY := w26_blk vb a1 W1.out.1
  have SC := Lib.hid (SB.out.same (Nat.le_refl _) (w26_below vb a1))
  have XC := Lib.hid (XB.out.below (w26_below vb a1) XB.out.lt)
  clear SB XB
  generalize hW : w26 vb a1 = vc at *
  have HW := Lib.hid hW
  have YC := Lib.hid hY
  have AC := Lib.hid (A0.out.below SC.out.2 A0.out.lt)
  clear hW hY
  dsimp only
  go_wp2_with (first
    | (with_reducible refine step_alloc 26 zArr Try.zero26 rfl rfl ?_)
    | (refine step_put26 (w := vb) a1 _ _ rfl rfl rfl rfl rfl W1.out.1 HW.out ?_)
    | (refine step_loadG 26 _ v8.heap.size 0 (bArr a1) rfl rfl rfl XC.out.all _ Try.underlying26 rfl 48 Try.size26 (bArr_size W1.out.1) ?_)
    | (refine step_loadG 26 _ vb.heap.size 0 (bArr a1) rfl rfl rfl YC.out.all _ Try.underlying26 rfl 48 Try.size26 (bArr_size W1.out.1) ?_)
    | (refine step_loadG 26 _ w.heap.size 0 (bArr a1) rfl rfl rfl AC.out.all _ Try.underlying26 rfl 48 Try.size26 (bArr_size W1.out.1) ?_)
    | (refine step_eql26 a1 a1 _ _ _ rfl rfl rfl rfl W1.out.1 W1.out.1 true (by simp) ?_))
  refine (blot_up n SC.out.1 (by rw [F.out.2.2.2.2.1.2.2.2.2]; omega) F.out.2.2.2.2.1.2.2.1 (by rw [F.out.2.2.2.2.1.2.1]; omega) (by rw [F.out.2.2.2.2.1.2.2.2.1]; omega)).mono ?_
  rintro e vd ⟨rfl, hp, ho⟩
  have SD := Lib.hid (show Stands v0 vd v0.heap.size g h (Once.p5 n a1 keep) from SC.out.next h1 h2 (Nat.le_refl _) hp ho)
  have HB := Lib.hid (B0.out.below SD.out.2 B0.out.lt)
  clear hp ho SC XC YC AC HW
  go_wp2_with (refine step_loadG 26 _ (w.heap.size + 1) 0 (bArr a2) rfl rfl rfl HB.out.all _ Try.underlying26 rfl 48 Try.size26 (bArr_size W2.out.1) ?_)
  refine (ink_put n a2 0 SD.out.1 (by rw [F.out.2.2.2.2.2.1.2.2.2.2]; omega) F.out.2.2.2.2.2.1.2.2.1 (by rw [F.out.2.2.2.2.2.1.2.1]; omega) F.out.2.2.2.2.2.1.1 W2.out.1 W2.out.2 (by rw [F.out.2.2.2.2.2.1.2.2.2.1]; rfl)).mono ?_
  rintro e ve ⟨rfl, hp, ho⟩
  have SE := Lib.hid (show Stands v0 ve v0.heap.size g h (Once.p6 n a1 a2 keep) from SD.out.next h1 h2 (Nat.le_refl _) hp ho)
  clear hp ho SD HB
  go_wp2_with fail
  refine (wet_any SE.out.1).mono ?_
  rintro e vf ⟨rfl, hb⟩
  have SF := Lib.hid (SE.out.same (Nat.le_refl _) hb)
  clear hb SE
  rw [F.out.2.2.2.2.2.2]
  go_wp2_with fail
  go_ret
  exact ⟨rfl, L0.out.trans (SF.out.2.mono hz0)⟩

set_option maxRecDepth 100000 in
theorem leafOnce_walk (a0 : Int) (a1 a2 : List Int) (a3 : Option Addr) (len3 cap3 : Nat) (z3 : List Int) (w : World) (w0 : (Lit.int .i64 a0).wf = true) (w1 : a1.length = 48 ∧ isBytes a1) (w2 : a2.length = 48 ∧ isBytes a2) (w3 : IsRow .i64 w a3 len3 cap3 z3) :
    Calls Try.prog 6 #[.int .i64 a0, .agg (bArr a1), .agg (bArr a2), .slice a3 len3 cap3] w fun e w' => e = .returned (.bool true) ∧ Below w.heap.size w w' := by
  obtain ⟨p0, p1⟩ := bounds_i64 w0
  by_cases hl : 30 < len3
  · have hd : decide (30 < (len3 : Int)) = true := decide_eq_true (by omega)
    clear w1 w2
    go_enter Try.func6, Try.ntmps6
    go_wp2_with fail
    refine (awake23 _).mono ?_
    rintro e v2 ⟨rfl, hb⟩
    go_wp2_with fail
    go_ret
    exact ⟨rfl, (((Below.refl _ _).alloc (Nat.le_refl _) _).alloc (by simp) _).trans (hb.mono (by simp; omega))⟩
  · obtain ⟨u, n, hu, hu0, hu1, hr, hn⟩ := u64_rest a0 5 (by omega)
    exact leafOnce_core a0 u n a1 a2 a3 len3 cap3 _ w (by omega) (by omega) hu hu0 hu1 hr hn w1 w2 w3.nums w3.wf_ (by omega)
end Go.Proofs.Ytdjkkpefljapcaa
