/- The walk of the law LeafTorn. -/
import Derived.Test.YtdjkkpefljapcaaLeafH
import Derived.WalkKit
import Derived.OpenShut
namespace Go.Proofs.Ytdjkkpefljapcaa
open Go.RowKit
set_option linter.unusedVariables false
set_option linter.unusedSimpArgs false

namespace Torn
def s0 : Pd := { Pd.new 2 with snag := max 1 0 }
def s1 (b : List Int) : Pd := (s0.put 0 ⟨1, b⟩).stroke
def s2 (b : List Int) : Pd := (s1 b).mend
theorem sfacts (b : List Int) : s0.l.length = 2 ∧ (s0.at 0).is = 0 ∧ s0.snag = 1 ∧ s0.down = false ∧ s0.falls = 0 ∧ (s2 b).tell 0 = (zb, false) ∧ (s2 b).down = false := ⟨rfl, rfl, rfl, rfl, rfl, rfl, rfl⟩
def p1 (b : List Int) : Pd := ((Pd.new 2).put 0 ⟨1, b⟩).stroke
def p2 (b : List Int) (keep : Int) : Pd := (p1 b).drop [keep]
def p3 (b : List Int) (keep : Int) : Pd := (p2 b keep).mend
theorem pfacts (b : List Int) : (p1 b).l = [⟨1, b⟩, Lf.zero] ∧ (p1 b).falls = 0 := ⟨rfl, rfl⟩
theorem p2_l (b : List Int) (keep : Int) : (p2 b keep).l = [keptL ⟨1, b⟩ keep, Lf.zero] := rfl
theorem p3_none (b : List Int) (keep : Int) (h : keep < 1) : (p3 b keep).tell 0 = (zb, false) ∧ wetN (p3 b keep).l = 0 := by
  have e : keptL ⟨1, b⟩ keep = Lf.zero := by unfold keptL; rw [if_pos h]
  have e2 : (p3 b keep).l = [Lf.zero, Lf.zero] := by
    show eachL (fun _ _ => Lf.zero) 0 (p2 b keep).l = _
    rw [p2_l, e]
    rfl
  refine ⟨?_, by rw [e2]; rfl⟩
  unfold Pd.tell Pd.at
  rw [e2]
  rfl
theorem p3_some (b : List Int) (m : Nat) (h : 1 ≤ m) : (p3 b m).tell 0 = (b.take m ++ List.replicate (48 - m) 255, true) ∧ wetN (p3 b m).l = 0 := by
  have e : keptL ⟨1, b⟩ m = ⟨2, b.take m ++ List.replicate (48 - m) 255⟩ := by unfold keptL; rw [if_neg (by omega)]; simp
  have e2 : (p3 b m).l = [⟨2, b.take m ++ List.replicate (48 - m) 255⟩, Lf.zero] := by
    show eachL (fun _ _ => Lf.zero) 0 (p2 b m).l = _
    rw [p2_l, e]
    rfl
  refine ⟨?_, by rw [e2]; rfl⟩
  unfold Pd.tell Pd.at
  rw [e2]
  rfl
end Torn

set_option maxRecDepth 100000 in
set_option maxHeartbeats 1000000 in
theorem torn_snag (a0 : List Int) (a1 : Int) (w : World) (w0 : a0.length = 48 ∧ isBytes a0) :
    Calls Try.prog 5 #[.agg (bArr a0), .int .i64 a1, .bool true] w fun e w' => e = .returned (.bool true) ∧ Below w.heap.size w w' := by
  have F := Lib.hid (Torn.sfacts a0)
  have A0 := Lib.hid (Blk.new w 26 (bArr a0))
  have L0 := Lib.hid ((Below.refl w.heap.size w).alloc (Nat.le_refl _) (.cells (bArr a0) 26))
  have hz0 : w.heap.size ≤ (w.alloc (.cells (bArr a0) 26)).heap.size := by simp
  have W0 := Lib.hid w0
  clear w0
  go_enter Try.func5, Try.ntmps5
  go_wp2_with fail
  generalize hW : w.alloc (.cells (bArr a0) 26) = v0 at *
  clear hW
  refine (new_any 2 (by omega) (by omega) _).mono ?_
  rintro e v1 ⟨g, h, rfl, hp, h1, h2, hb⟩
  have S1 := Lib.hid (show Stands v0 v1 v0.heap.size g h (Pd.new 2) from ⟨hp, hb⟩)
  clear hp hb
  go_wp2_with fail
  refine (awake23 _).mono ?_
  rintro e v2 ⟨rfl, hb⟩
  have S2 := Lib.hid (S1.out.same (Nat.le_refl _) hb)
  clear hb S1
  go_wp2_with fail
  refine (snag_any 1 (by omega) S2.out.1).mono ?_
  rintro e v3 ⟨rfl, hp, ho⟩
  have S3 := Lib.hid (show Stands v0 v3 v0.heap.size g h Torn.s0 from S2.out.next h1 h2 (Nat.le_refl _) hp ho)
  have HA := Lib.hid (A0.out.below S3.out.2 A0.out.lt)
  clear hp ho S2
  go_wp2_with (refine step_loadG 26 _ w.heap.size 0 (bArr a0) rfl rfl rfl HA.out.all _ Try.underlying26 rfl 48 Try.size26 (bArr_size W0.out.1) ?_)
  refine (ink_put 0 a0 15 S3.out.1 (by rw [F.out.2.2.2.2.1]; omega) F.out.2.2.2.1 (by rw [F.out.1]; omega) F.out.2.1 W0.out.1 W0.out.2 (by rw [if_pos F.out.2.2.1])).mono ?_
  rintro e v4 ⟨rfl, hp, ho⟩
  have S4 := Lib.hid (show Stands v0 v4 v0.heap.size g h (Torn.s1 a0) from S3.out.next h1 h2 (Nat.le_refl _) hp ho)
  clear hp ho S3 HA
  go_wp2_with fail
  refine (mend_any S4.out.1).mono ?_
  rintro e v5 ⟨rfl, hp, ho⟩
  have S5 := Lib.hid (show Stands v0 v5 v0.heap.size g h (Torn.s2 a0) from S4.out.next h1 h2 (Nat.le_refl _) hp ho)
  clear hp ho S4
  go_wp2_with fail
  refine (leaf_any 0 S5.out.1).mono ?_
  rintro e v6 ⟨rfl, hb⟩
  have S6 := Lib.hid (S5.out.same (Nat.le_refl _) hb)
  clear hb S5
  rw [F.out.2.2.2.2.2.1]
  have S7 := Lib.hid (S6.out.same (Nat.le_refl _) (w26_below v6 zb))
  clear S6
  generalize hW : w26 v6 zb = v7 at *
  have HW := Lib.hid hW
  clear hW
  dsimp only
  go_wp2_with (first | (with_reducible refine step_alloc 26 zArr Try.zero26 rfl rfl ?_) | (refine step_put26 (w := v6) zb _ _ rfl rfl rfl rfl rfl zb_len HW.out ?_))
  refine (down_any S7.out.1).mono ?_
  rintro e v8 ⟨rfl, rfl⟩
  rw [F.out.2.2.2.2.2.2]
  go_wp2_with fail
  go_ret
  exact ⟨rfl, L0.out.trans (S7.out.2.mono hz0)⟩

theorem bArr_get (b : List Int) (i : Nat) (hi : i < b.length) : (bArr b)[i]? = some (.int .u8 (b.getD i 0)) := by simp [bArr, List.getD, List.getElem?_eq_getElem hi]
theorem bArr_set (b : List Int) (i : Nat) (v : Int) : (bArr b).setIfInBounds i (.int .u8 v) = bArr (b.set i v) := by
  unfold bArr
  rw [List.setIfInBounds_toArray, List.map_set]
theorem step_storeW {ops : Array Oper} {rest : List Oper} {o : Oper} {a : Act} {w W : World} {Q : Exit → Act → World → Prop} (ty : TypeId) (x y : Operand) (b f : Nat) (C : Array Value) (hg : o.guard = none) (ho : o.op = .store ty x y) (hx : a.eval x = .pointer (some ⟨b, f, none⟩)) (hy : a.eval y = .agg C) (n : Nat) (ht : w.there b f n) (hi : (Try.prog.info? ty).map (·.size) = some n) (hn : C.size = n) (h1 : C.all (·.oneCell') = true) (hW : w.setCells b f C.toList = W)
    (h : wpList Try.prog ops Q rest (a.put o.dst undef) W) : wpList Try.prog ops Q (o :: rest) a w := by
  subst hW
  exact step_store ty x y b f C hg ho hx hy n ht hi hn h1 h
theorem one_nums {w : World} {g : Nat} {t : TypeId} {a : Int} (h : Blk w g t #[.int .i64 a]) : Nums .i64 w (g + 1) (some ⟨g, 0, none⟩) 1 [a] := by
  refine ⟨by simp, fun _ => ⟨_, rfl, by simp, fun j u hu => ?_⟩⟩
  rw [Addr.add_lit]
  simp only [Nat.zero_add]
  rw [h.cell j]
  match j, hu with
  | 0, hu => exact hu

set_option maxRecDepth 100000 in
set_option maxHeartbeats 2000000 in
theorem torn_core (a0 : List Int) (a1 : Int) (k : Nat) (x : List Int) (xb : Bool) (w : World) (w0 : a0.length = 48 ∧ isBytes a0) (p0 : -9223372036854775808 ≤ a1) (p1 : a1 ≤ 9223372036854775807)
    (ht : (Torn.p3 a0 a1).tell 0 = (x, xb)) (hx : x.length = 48) (hwet : wetN (Torn.p3 a0 a1).l = 0)
    (hk : (a1 < 0 ∧ k = 0) ∨ (a1 = 0 ∧ k = 0) ∨ (0 < a1 ∧ a1 < 48 ∧ (k : Int) = a1) ∨ (a1 = 48 ∧ k = 48) ∨ (48 < a1 ∧ k = 48)) (hkb : decide (0 < k) = xb) (hxk : (if k = 0 then zb else partL a0 k 48) = x) :
    Calls Try.prog 5 #[.agg (bArr a0), .int .i64 a1, .bool false] w fun e w' => e = .returned (.bool true) ∧ Below w.heap.size w w' := by
  have A0 := Lib.hid (Blk.new w 26 (bArr a0))
  have L0 := Lib.hid ((Below.refl w.heap.size w).alloc (Nat.le_refl _) (.cells (bArr a0) 26))
  have hz0 : w.heap.size < (w.alloc (.cells (bArr a0) 26)).heap.size := by simp
  have W0 := Lib.hid w0
  have HT := Lib.hid ht
  have HX := Lib.hid hx
  have HWT := Lib.hid hwet
  have HK := Lib.hid hk
  have HKB := Lib.hid hkb
  have HXK := Lib.hid hxk
  clear w0 ht hx hwet hk hkb hxk
  go_enter Try.func5, Try.ntmps5
  go_wp2_with fail
  generalize hW : w.alloc (.cells (bArr a0) 26) = v0 at *
  clear hW
  refine (new_any 2 (by omega) (by omega) _).mono ?_
  rintro e v1 ⟨g, h, rfl, hp, h1, h2, hb⟩
  have S1 := Lib.hid (show Stands v0 v1 v0.heap.size g h (Pd.new 2) from ⟨hp, hb⟩)
  clear hp hb
  go_wp2_with fail
  refine (awake23 _).mono ?_
  rintro e v2 ⟨rfl, hb⟩
  have S2 := Lib.hid (S1.out.same (Nat.le_refl _) hb)
  have HA := Lib.hid (A0.out.below S2.out.2 A0.out.lt)
  clear hb S1
  go_wp2_with (refine step_loadG 26 _ w.heap.size 0 (bArr a0) rfl rfl rfl HA.out.all _ Try.underlying26 rfl 48 Try.size26 (bArr_size W0.out.1) ?_)
  refine (ink_put 0 a0 0 S2.out.1 (by show (0 : Int) < 1000000000; omega) rfl (by show 0 < 2; omega) rfl W0.out.1 W0.out.2 rfl).mono ?_
  rintro e v3 ⟨rfl, hp, ho⟩
  have S3 := Lib.hid (show Stands v0 v3 v0.heap.size g h (Torn.p1 a0) from S2.out.next h1 h2 (Nat.le_refl _) hp ho)
  clear hp ho S2 HA
  go_wp2_with fail
  have S4 := Lib.hid (S3.out.same (Nat.le_refl _) ((Below.refl _ _).alloc (Nat.le_refl _) (.cells #[.int .i64 a1] 3)))
  have hb4 := Blk.new v3 3 #[.int .i64 a1]
  have HB4 := Lib.hid hb4
  have hgh := S3.out.1.lt
  clear hb4 S3
  refine (drop_any S4.out.1 (by show (0 : Int) < 1000000000; omega) (some ⟨v3.heap.size, 0, none⟩) 1 1 (v3.heap.size + 1) [a1] (fun w' ho => one_nums (ho.blk HB4.out (by omega) (by omega))) (by intro y hy; rw [List.mem_singleton] at hy; subst hy; exact WalkArith.wf_i64 (by omega)) (by omega)).mono ?_
  rintro e v5 ⟨rfl, hp, ho⟩
  have S5 := Lib.hid (show Stands v0 v5 v0.heap.size g h (Torn.p2 a0 a1) from S4.out.next h1 h2 (Nat.le_refl _) hp ho)
  clear hp ho S4 HB4 hgh
  go_wp2_with fail
  refine (down_any S5.out.1).mono ?_
  rintro e v6 ⟨rfl, rfl⟩
  rw [show (Torn.p2 a0 a1).down = true from rfl]
  go_wp2_with fail
  refine (mend_any S5.out.1).mono ?_
  rintro e v6 ⟨rfl, hp, ho⟩
  have S6 := Lib.hid (show Stands v0 v6 v0.heap.size g h (Torn.p3 a0 a1) from S5.out.next h1 h2 (Nat.le_refl _) hp ho)
  clear hp ho S5
  go_wp2_with fail
  refine (leaf_any 0 S6.out.1).mono ?_
  rintro e v7 ⟨rfl, hb⟩
  have S7 := Lib.hid (S6.out.same (Nat.le_refl _) hb)
  clear hb S6
  rw [HT.out]
  have S8 := Lib.hid (S7.out.same (Nat.le_refl _) (w26_below v7 x))
  have X8 := Lib.hid (w26_blk v7 x HX.out)
  have hv7 := S7.out.1.lt
  have hv7' : v0.heap.size ≤ v7.heap.size := S7.out.2.size
  have A8 := Lib.hid (A0.out.below S8.out.2 A0.out.lt)
  clear S7
  generalize hW : w26 v7 x = v8 at *
  have HW := Lib.hid hW
  clear hW
  dsimp only
  have hk48 : k ≤ 48 := by have := HK.out; omega
  obtain ⟨kk, hkk⟩ : ∃ kk : Int, kk = max 0 (min a1 48) := ⟨_, rfl⟩
  have hcases := HK.out
  clear HT HK hkk
  rcases hcases with ⟨g1, hkz⟩ | ⟨g1, hkz⟩ | ⟨g1, g2, hkz⟩ | ⟨g1, hkz⟩ | ⟨g1, hkz⟩
  · subst hkz
    have hxb := HKB.out
    rw [show decide (0 < 0) = false from by simp] at hxb
    subst hxb
    have hxy := HXK.out
    rw [if_pos (by omega)] at hxy
    have HXY := Lib.hid hxy.symm
    clear hxy
    go_wp2_with (first | (with_reducible refine step_alloc 26 zArr Try.zero26 rfl rfl ?_) | (refine step_put26 (w := v7) x _ _ rfl rfl rfl rfl rfl HX.out HW.out ?_))
    clear HW
    go_loopw [15] (fun i wr => ∃ j : Nat, 0 ≤ j ∧ j ≤ 48 ∧ i = .int .i64 j ∧ Blk wr w.heap.size 26 (bArr (partL a0 0 j)) ∧ Off w.heap.size w.heap.size v8 wr) (fun i _ => 48 - (intOf i).toNat)
    case atStart => exact ⟨0, by omega, by omega, by first | rfl | go_num, by rw [partL_start]; exact A8.out, Off.refl _ _ _⟩
    case round =>
      obtain ⟨j, hj1, hj2, rfl, hb, ho⟩ := hrel
      have hpl := partL_length (b := a0) W0.out.1 hj1 (.inl hj2)
      have HB := Lib.hid hb
      have HO := Lib.hid ho
      by_cases hlt : j < 48
      · have c0 : wr.cell? ⟨w.heap.size, j, none⟩ = some (.int .u8 ((partL a0 0 j).getD j 0)) := by rw [hb.cell, bArr_get _ _ (by omega)]
        have f0 := hb.frozen j
        clear hb ho hpl
        go_wp2
        go_roundw
        case rel =>
          refine ⟨j + 1, by omega, by omega, by go_num, ?_, HO.out.setCell (.inl rfl) _⟩
          have := HB.out.set_ j (.int .u8 255)
          rwa [bArr_set, partL_set W0.out.1 hj1 hlt] at this
        case measure => simp [intOf]; omega
      · have hj48 : j = 48 := by omega
        subst hj48
        have hw8 : w.heap.size < v8.heap.size := by have := S8.out.2.size; omega
        have HP := Lib.hid (S8.out.1.off ho (by omega) (by omega) (by omega) (by omega))
        have HX9 := Lib.hid (ho.blk X8.out (by omega) (by omega))
        have HBE := Lib.hid ((L0.out.trans (S8.out.2.mono (by omega))).trans (ho.below (Nat.le_refl _) (Nat.le_refl _) (by omega)))
        have hws : w.heap.size ≤ wr.heap.size := HBE.out.size
        clear hb ho hpl HO
        have hB2 : Blk (wr.setCells w.heap.size 0 (bArr zb).toList) w.heap.size 26 (bArr zb) := HB.out.overwrite (by rw [bArr_size zb_len, bArr_size (partL_length (b := a0) W0.out.1 hj1 (.inl hj2))])
        have ho2 : Off w.heap.size w.heap.size wr (wr.setCells w.heap.size 0 (bArr zb).toList) := (Off.refl _ _ _).setCells (.inl rfl) _ _
        have HP2 := Lib.hid (HP.out.off ho2 (by omega) (by omega) (by omega) (by omega))
        have HX2 := Lib.hid (ho2.blk HX9.out (by omega) (by omega))
        have HBE2 := Lib.hid (HBE.out.trans (ho2.below (Nat.le_refl _) (Nat.le_refl _) hws))
        have HB2 := Lib.hid hB2
        clear hB2 ho2 HP HX9 HBE
        generalize hW : wr.setCells w.heap.size 0 (bArr zb).toList = v9 at *
        have HW := Lib.hid hW
        clear hW
        go_wp2_with (first | (refine step_build 26 #[] (bArr zb) rfl rfl Try.built26_z ?_) | (refine step_storeW 26 _ _ w.heap.size 0 (bArr zb) rfl rfl rfl rfl 48 (HB.out.allThere (bArr_size (partL_length (b := a0) W0.out.1 hj1 (.inl hj2)))) Try.size26 (bArr_size zb_len) (bArr_one _) HW.out ?_))
        refine (down_any HP2.out).mono ?_
        rintro e va ⟨rfl, rfl⟩
        rw [show (Torn.p3 a0 _).down = false from rfl]
        go_wp2_with (first
          | (refine step_loadG 26 _ v7.heap.size 0 (bArr x) rfl rfl rfl HX2.out.all _ Try.underlying26 rfl 48 Try.size26 (bArr_size HX.out) ?_)
          | (refine step_loadG 26 _ w.heap.size 0 (bArr (zb)) rfl rfl rfl HB2.out.all _ Try.underlying26 rfl 48 Try.size26 (bArr_size zb_len) ?_)
          | (refine step_eql26 x (zb) _ _ _ rfl rfl rfl rfl HX.out zb_len true (decide_eq_true HXY.out) ?_))
        refine (wet_any HP2.out).mono ?_
        rintro e va ⟨rfl, hb⟩
        have HBF := Lib.hid (HBE2.out.trans (hb.mono (by have := HBE2.out.size; omega)))
        clear hb
        rw [HWT.out]
        go_wp2_with fail
        go_ret
        exact ⟨rfl, HBF.out⟩
  · subst hkz g1
    have hxb := HKB.out
    rw [show decide (0 < 0) = false from by simp] at hxb
    subst hxb
    have hxy := HXK.out
    rw [if_pos (by omega)] at hxy
    have HXY := Lib.hid hxy.symm
    clear hxy
    go_wp2_with (first | (with_reducible refine step_alloc 26 zArr Try.zero26 rfl rfl ?_) | (refine step_put26 (w := v7) x _ _ rfl rfl rfl rfl rfl HX.out HW.out ?_))
    clear HW
    go_loopw [15] (fun i wr => ∃ j : Nat, 0 ≤ j ∧ j ≤ 48 ∧ i = .int .i64 j ∧ Blk wr w.heap.size 26 (bArr (partL a0 0 j)) ∧ Off w.heap.size w.heap.size v8 wr) (fun i _ => 48 - (intOf i).toNat)
    case atStart => exact ⟨0, by omega, by omega, by first | rfl | go_num, by rw [partL_start]; exact A8.out, Off.refl _ _ _⟩
    case round =>
      obtain ⟨j, hj1, hj2, rfl, hb, ho⟩ := hrel
      have hpl := partL_length (b := a0) W0.out.1 hj1 (.inl hj2)
      have HB := Lib.hid hb
      have HO := Lib.hid ho
      by_cases hlt : j < 48
      · have c0 : wr.cell? ⟨w.heap.size, j, none⟩ = some (.int .u8 ((partL a0 0 j).getD j 0)) := by rw [hb.cell, bArr_get _ _ (by omega)]
        have f0 := hb.frozen j
        clear hb ho hpl
        go_wp2
        go_roundw
        case rel =>
          refine ⟨j + 1, by omega, by omega, by go_num, ?_, HO.out.setCell (.inl rfl) _⟩
          have := HB.out.set_ j (.int .u8 255)
          rwa [bArr_set, partL_set W0.out.1 hj1 hlt] at this
        case measure => simp [intOf]; omega
      · have hj48 : j = 48 := by omega
        subst hj48
        have hw8 : w.heap.size < v8.heap.size := by have := S8.out.2.size; omega
        have HP := Lib.hid (S8.out.1.off ho (by omega) (by omega) (by omega) (by omega))
        have HX9 := Lib.hid (ho.blk X8.out (by omega) (by omega))
        have HBE := Lib.hid ((L0.out.trans (S8.out.2.mono (by omega))).trans (ho.below (Nat.le_refl _) (Nat.le_refl _) (by omega)))
        have hws : w.heap.size ≤ wr.heap.size := HBE.out.size
        clear hb ho hpl HO
        have hB2 : Blk (wr.setCells w.heap.size 0 (bArr zb).toList) w.heap.size 26 (bArr zb) := HB.out.overwrite (by rw [bArr_size zb_len, bArr_size (partL_length (b := a0) W0.out.1 hj1 (.inl hj2))])
        have ho2 : Off w.heap.size w.heap.size wr (wr.setCells w.heap.size 0 (bArr zb).toList) := (Off.refl _ _ _).setCells (.inl rfl) _ _
        have HP2 := Lib.hid (HP.out.off ho2 (by omega) (by omega) (by omega) (by omega))
        have HX2 := Lib.hid (ho2.blk HX9.out (by omega) (by omega))
        have HBE2 := Lib.hid (HBE.out.trans (ho2.below (Nat.le_refl _) (Nat.le_refl _) hws))
        have HB2 := Lib.hid hB2
        clear hB2 ho2 HP HX9 HBE
        generalize hW : wr.setCells w.heap.size 0 (bArr zb).toList = v9 at *
        have HW := Lib.hid hW
        clear hW
        go_wp2_with (first | (refine step_build 26 #[] (bArr zb) rfl rfl Try.built26_z ?_) | (refine step_storeW 26 _ _ w.heap.size 0 (bArr zb) rfl rfl rfl rfl 48 (HB.out.allThere (bArr_size (partL_length (b := a0) W0.out.1 hj1 (.inl hj2)))) Try.size26 (bArr_size zb_len) (bArr_one _) HW.out ?_))
        refine (down_any HP2.out).mono ?_
        rintro e va ⟨rfl, rfl⟩
        rw [show (Torn.p3 a0 _).down = false from rfl]
        go_wp2_with (first
          | (refine step_loadG 26 _ v7.heap.size 0 (bArr x) rfl rfl rfl HX2.out.all _ Try.underlying26 rfl 48 Try.size26 (bArr_size HX.out) ?_)
          | (refine step_loadG 26 _ w.heap.size 0 (bArr (zb)) rfl rfl rfl HB2.out.all _ Try.underlying26 rfl 48 Try.size26 (bArr_size zb_len) ?_)
          | (refine step_eql26 x (zb) _ _ _ rfl rfl rfl rfl HX.out zb_len true (decide_eq_true HXY.out) ?_))
        refine (wet_any HP2.out).mono ?_
        rintro e va ⟨rfl, hb⟩
        have HBF := Lib.hid (HBE2.out.trans (hb.mono (by have := HBE2.out.size; omega)))
        clear hb
        rw [HWT.out]
        go_wp2_with fail
        go_ret
        exact ⟨rfl, HBF.out⟩
  · subst hkz
    have hxb := HKB.out
    rw [show decide (0 < k) = true from by simp; omega] at hxb
    have hdk : decide ((0 : Int) < (k : Int)) = true := decide_eq_true (by omega)
    have hk0 : 0 < k := by omega
    have hdk2 : decide (0 < k) = true := decide_eq_true hk0
    subst hxb
    have hxy := HXK.out
    rw [if_neg (by omega)] at hxy
    have HXY := Lib.hid hxy.symm
    clear hxy
    go_wp2_with (first | (with_reducible refine step_alloc 26 zArr Try.zero26 rfl rfl ?_) | (refine step_put26 (w := v7) x _ _ rfl rfl rfl rfl rfl HX.out HW.out ?_))
    clear HW
    go_loopw [15] (fun i wr => ∃ j : Nat, k ≤ j ∧ j ≤ 48 ∧ i = .int .i64 j ∧ Blk wr w.heap.size 26 (bArr (partL a0 k j)) ∧ Off w.heap.size w.heap.size v8 wr) (fun i _ => 48 - (intOf i).toNat)
    case atStart => exact ⟨k, by omega, by omega, by first | rfl | go_num, by rw [partL_start]; exact A8.out, Off.refl _ _ _⟩
    case round =>
      obtain ⟨j, hj1, hj2, rfl, hb, ho⟩ := hrel
      have hpl := partL_length (b := a0) W0.out.1 hj1 (.inl hj2)
      have HB := Lib.hid hb
      have HO := Lib.hid ho
      by_cases hlt : j < 48
      · have c0 : wr.cell? ⟨w.heap.size, j, none⟩ = some (.int .u8 ((partL a0 k j).getD j 0)) := by rw [hb.cell, bArr_get _ _ (by omega)]
        have f0 := hb.frozen j
        clear hb ho hpl
        go_wp2
        go_roundw
        case rel =>
          refine ⟨j + 1, by omega, by omega, by go_num, ?_, HO.out.setCell (.inl rfl) _⟩
          have := HB.out.set_ j (.int .u8 255)
          rwa [bArr_set, partL_set W0.out.1 hj1 hlt] at this
        case measure => simp [intOf]; omega
      · have hj48 : j = 48 := by omega
        subst hj48
        have hw8 : w.heap.size < v8.heap.size := by have := S8.out.2.size; omega
        have HP := Lib.hid (S8.out.1.off ho (by omega) (by omega) (by omega) (by omega))
        have HX9 := Lib.hid (ho.blk X8.out (by omega) (by omega))
        have HBE := Lib.hid ((L0.out.trans (S8.out.2.mono (by omega))).trans (ho.below (Nat.le_refl _) (Nat.le_refl _) (by omega)))
        have hws : w.heap.size ≤ wr.heap.size := HBE.out.size
        clear hb ho hpl HO
        go_wp2_with fail
        refine (down_any HP.out).mono ?_
        rintro e va ⟨rfl, rfl⟩
        rw [show (Torn.p3 a0 _).down = false from rfl]
        go_wp2_with (first
          | (refine step_loadG 26 _ v7.heap.size 0 (bArr x) rfl rfl rfl HX9.out.all _ Try.underlying26 rfl 48 Try.size26 (bArr_size HX.out) ?_)
          | (refine step_loadG 26 _ w.heap.size 0 (bArr (partL a0 k 48)) rfl rfl rfl HB.out.all _ Try.underlying26 rfl 48 Try.size26 (bArr_size (partL_length (b := a0) W0.out.1 hj1 (.inl hj2))) ?_)
          | (refine step_eql26 x (partL a0 k 48) _ _ _ rfl rfl rfl rfl HX.out (partL_length (b := a0) W0.out.1 hj1 (.inl hj2)) true (decide_eq_true HXY.out) ?_))
        refine (wet_any HP.out).mono ?_
        rintro e va ⟨rfl, hb⟩
        have HBF := Lib.hid (HBE.out.trans (hb.mono (by have := HBE.out.size; omega)))
        clear hb
        rw [HWT.out]
        go_wp2_with fail
        go_ret
        exact ⟨rfl, HBF.out⟩
  · subst hkz g1
    have hxb := HKB.out
    rw [show decide (0 < 48) = true from by simp] at hxb
    subst hxb
    have hxy := HXK.out
    rw [if_neg (by omega)] at hxy
    have HXY := Lib.hid hxy.symm
    clear hxy
    go_wp2_with (first | (with_reducible refine step_alloc 26 zArr Try.zero26 rfl rfl ?_) | (refine step_put26 (w := v7) x _ _ rfl rfl rfl rfl rfl HX.out HW.out ?_))
    clear HW
    go_loopw [15] (fun i wr => ∃ j : Nat, 48 ≤ j ∧ j ≤ 48 ∧ i = .int .i64 j ∧ Blk wr w.heap.size 26 (bArr (partL a0 48 j)) ∧ Off w.heap.size w.heap.size v8 wr) (fun i _ => 48 - (intOf i).toNat)
    case atStart => exact ⟨48, by omega, by omega, by first | rfl | go_num, by rw [partL_start]; exact A8.out, Off.refl _ _ _⟩
    case round =>
      obtain ⟨j, hj1, hj2, rfl, hb, ho⟩ := hrel
      have hpl := partL_length (b := a0) W0.out.1 hj1 (.inl hj2)
      have HB := Lib.hid hb
      have HO := Lib.hid ho
      by_cases hlt : j < 48
      · exact absurd hlt (by omega)
      · have hj48 : j = 48 := by omega
        subst hj48
        have hw8 : w.heap.size < v8.heap.size := by have := S8.out.2.size; omega
        have HP := Lib.hid (S8.out.1.off ho (by omega) (by omega) (by omega) (by omega))
        have HX9 := Lib.hid (ho.blk X8.out (by omega) (by omega))
        have HBE := Lib.hid ((L0.out.trans (S8.out.2.mono (by omega))).trans (ho.below (Nat.le_refl _) (Nat.le_refl _) (by omega)))
        have hws : w.heap.size ≤ wr.heap.size := HBE.out.size
        clear hb ho hpl HO
        go_wp2_with fail
        refine (down_any HP.out).mono ?_
        rintro e va ⟨rfl, rfl⟩
        rw [show (Torn.p3 a0 _).down = false from rfl]
        go_wp2_with (first
          | (refine step_loadG 26 _ v7.heap.size 0 (bArr x) rfl rfl rfl HX9.out.all _ Try.underlying26 rfl 48 Try.size26 (bArr_size HX.out) ?_)
          | (refine step_loadG 26 _ w.heap.size 0 (bArr (partL a0 48 48)) rfl rfl rfl HB.out.all _ Try.underlying26 rfl 48 Try.size26 (bArr_size (partL_length (b := a0) W0.out.1 hj1 (.inl hj2))) ?_)
          | (refine step_eql26 x (partL a0 48 48) _ _ _ rfl rfl rfl rfl HX.out (partL_length (b := a0) W0.out.1 hj1 (.inl hj2)) true (decide_eq_true HXY.out) ?_))
        refine (wet_any HP.out).mono ?_
        rintro e va ⟨rfl, hb⟩
        have HBF := Lib.hid (HBE.out.trans (hb.mono (by have := HBE.out.size; omega)))
        clear hb
        rw [HWT.out]
        go_wp2_with fail
        go_ret
        exact ⟨rfl, HBF.out⟩
  · subst hkz
    have hxb := HKB.out
    rw [show decide (0 < 48) = true from by simp] at hxb
    subst hxb
    have hxy := HXK.out
    rw [if_neg (by omega)] at hxy
    have HXY := Lib.hid hxy.symm
    clear hxy
    go_wp2_with (first | (with_reducible refine step_alloc 26 zArr Try.zero26 rfl rfl ?_) | (refine step_put26 (w := v7) x _ _ rfl rfl rfl rfl rfl HX.out HW.out ?_))
    clear HW
    go_loopw [15] (fun i wr => ∃ j : Nat, 48 ≤ j ∧ j ≤ 48 ∧ i = .int .i64 j ∧ Blk wr w.heap.size 26 (bArr (partL a0 48 j)) ∧ Off w.heap.size w.heap.size v8 wr) (fun i _ => 48 - (intOf i).toNat)
    case atStart => exact ⟨48, by omega, by omega, by first | rfl | go_num, by rw [partL_start]; exact A8.out, Off.refl _ _ _⟩
    case round =>
      obtain ⟨j, hj1, hj2, rfl, hb, ho⟩ := hrel
      have hpl := partL_length (b := a0) W0.out.1 hj1 (.inl hj2)
      have HB := Lib.hid hb
      have HO := Lib.hid ho
      by_cases hlt : j < 48
      · exact absurd hlt (by omega)
      · have hj48 : j = 48 := by omega
        subst hj48
        have hw8 : w.heap.size < v8.heap.size := by have := S8.out.2.size; omega
        have HP := Lib.hid (S8.out.1.off ho (by omega) (by omega) (by omega) (by omega))
        have HX9 := Lib.hid (ho.blk X8.out (by omega) (by omega))
        have HBE := Lib.hid ((L0.out.trans (S8.out.2.mono (by omega))).trans (ho.below (Nat.le_refl _) (Nat.le_refl _) (by omega)))
        have hws : w.heap.size ≤ wr.heap.size := HBE.out.size
        clear hb ho hpl HO
        go_wp2_with fail
        refine (down_any HP.out).mono ?_
        rintro e va ⟨rfl, rfl⟩
        rw [show (Torn.p3 a0 _).down = false from rfl]
        go_wp2_with (first
          | (refine step_loadG 26 _ v7.heap.size 0 (bArr x) rfl rfl rfl HX9.out.all _ Try.underlying26 rfl 48 Try.size26 (bArr_size HX.out) ?_)
          | (refine step_loadG 26 _ w.heap.size 0 (bArr (partL a0 48 48)) rfl rfl rfl HB.out.all _ Try.underlying26 rfl 48 Try.size26 (bArr_size (partL_length (b := a0) W0.out.1 hj1 (.inl hj2))) ?_)
          | (refine step_eql26 x (partL a0 48 48) _ _ _ rfl rfl rfl rfl HX.out (partL_length (b := a0) W0.out.1 hj1 (.inl hj2)) true (decide_eq_true HXY.out) ?_))
        refine (wet_any HP.out).mono ?_
        rintro e va ⟨rfl, hb⟩
        have HBF := Lib.hid (HBE.out.trans (hb.mono (by have := HBE.out.size; omega)))
        clear hb
        rw [HWT.out]
        go_wp2_with fail
        go_ret
        exact ⟨rfl, HBF.out⟩

theorem leafTorn_walk (a0 : List Int) (a1 : Int) (a2 : Bool) (w : World) (w0 : a0.length = 48 ∧ isBytes a0) (w1 : (Lit.int .i64 a1).wf = true) :
    Calls Try.prog 5 #[.agg (bArr a0), .int .i64 a1, .bool a2] w fun e w' => e = .returned (.bool true) ∧ Below w.heap.size w w' := by
  obtain ⟨p0, p1⟩ := bounds_i64 w1
  cases a2 with
  | true => exact torn_snag a0 a1 w w0
  | false =>
    by_cases h1 : a1 < 1
    · exact torn_core a0 a1 0 zb false w w0 (by omega) (by omega) (Torn.p3_none a0 a1 h1).1 zb_len (Torn.p3_none a0 a1 h1).2 (by omega) (by simp) (by simp)
    · obtain ⟨m, rfl⟩ : ∃ m : Nat, a1 = m := ⟨a1.toNat, by omega⟩
      have h := Torn.p3_some a0 m (by omega)
      have e : partL a0 (min m 48) 48 = a0.take m ++ List.replicate (48 - m) 255 := by
        rw [partL_all w0.1 (by omega) (by omega) (by omega)]
        by_cases hm : m ≤ 48
        · rw [show min m 48 = m from by omega]
        · rw [show min m 48 = 48 from by omega, List.take_of_length_le (by have := w0.1; omega), List.take_of_length_le (by have := w0.1; omega), show 48 - m = 0 from by omega]
      exact torn_core a0 m (min m 48) _ true w w0 (by omega) (by omega) h.1 (by rw [← e]; exact partL_length w0.1 (by omega) (by omega)) h.2 (by omega) (by simp; omega) (by rw [if_neg (by omega)]; exact e)
end Go.Proofs.Ytdjkkpefljapcaa
