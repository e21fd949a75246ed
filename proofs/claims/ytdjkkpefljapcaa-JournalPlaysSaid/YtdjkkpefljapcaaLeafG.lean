/- The walks of the laws LeafNil and LeafOutside. -/
import Derived.Test.YtdjkkpefljapcaaLeafF
import Derived.OpenShut
namespace Go.Proofs.Ytdjkkpefljapcaa
open Go.RowKit
set_option linter.unusedVariables false
set_option linter.unusedSimpArgs false

/-- A new variable of 48 bytes, and bytes laid into it. -/
def w26 (w : World) (bs : List Int) : World := (w.alloc (.cells zArr 26)).setCells w.heap.size 0 (bArr bs).toList
theorem w26_blk (w : World) (bs : List Int) (h : bs.length = 48) : Blk (w26 w bs) w.heap.size 26 (bArr bs) := (Blk.new w 26 zArr).overwrite (by rw [bArr_size h, zArr_size])
theorem w26_below (w : World) (bs : List Int) : Below w.heap.size w (w26 w bs) := ((Below.refl _ _).alloc (Nat.le_refl _) _).trans ((Off.refl w.heap.size w.heap.size _).setCells (.inl rfl) _ _ |>.below (Nat.le_refl _) (Nat.le_refl _) (by simp))
theorem w26_size (w : World) (bs : List Int) : w.heap.size < (w26 w bs).heap.size := by
  unfold w26
  rw [(setCells_same _ _ _ _).2.2.2]
  simp
section
variable {ops : Array Oper} {rest : List Oper} {o : Oper} {a : Act} {w w0 W : World} {Q : Exit → Act → World → Prop}
theorem step_put26 (bs : List Int) (x y : Operand) (ho : o.op = .store 26 x y) (hg : o.guard = none) (hw : w0 = w.alloc (.cells zArr 26)) (hx : a.eval x = .pointer (some ⟨w.heap.size, 0, none⟩)) (hy : a.eval y = .agg (bArr bs)) (hb : bs.length = 48) (hW : w26 w bs = W)
    (h : wpList Try.prog ops Q rest (a.put o.dst undef) W) : wpList Try.prog ops Q (o :: rest) a w0 := by
  subst hw hW
  exact step_store 26 x y w.heap.size 0 (bArr bs) hg ho hx hy 48 ((Blk.new _ _ _).allThere zArr_size) Try.size26 (bArr_size hb) (bArr_one _) h
end

def zb : List Int := List.replicate 48 0
theorem zb_len : zb.length = 48 := by simp [zb]
theorem zb_bytes : isBytes zb := isBytes_rep 48 0 (by omega) (by omega)
theorem zb_arr : zArr = bArr zb := rfl
theorem Try.built26_z : Try.prog.built 26 [] = some (bArr zb) := by kernel_rfl

set_option maxRecDepth 100000 in
set_option maxHeartbeats 1000000 in
theorem leafNil_walk (a0 : Int) (a1 : List Int) (w : World) (w0 : (Lit.int .i64 a0).wf = true) (w1 : a1.length = 48 ∧ isBytes a1) :
    Calls Try.prog 7 #[.int .i64 a0, .agg (bArr a1)] w fun e w' => e = .returned (.bool true) ∧ Below w.heap.size w w' := by
  have HB := Lib.hid (Blk.new w 26 (bArr a1))
  have hs0 : w.heap.size < (w.alloc (.cells (bArr a1) 26)).heap.size := by simp
  have HL := Lib.hid ((Below.refl w.heap.size w).alloc (Nat.le_refl _) (.cells (bArr a1) 26))
  have W1 := Lib.hid w1
  clear w1
  go_enter Try.func7, Try.ntmps7
  go_wp2_with fail
  generalize hW : w.alloc (.cells (bArr a1) 26) = v0 at *
  clear hW
  refine (drop_nil _ none 0 0).mono ?_
  rintro e v1 ⟨rfl, hb1⟩
  have HB1 := Lib.hid (HB.out.below hb1 hs0)
  have HL1 := Lib.hid (HL.out.trans (hb1.mono (by omega)))
  have hs1 : w.heap.size < v1.heap.size := HB1.out.lt
  clear hb1 HB HL hs0
  go_wp2_with fail
  refine (snag_nil a0 _).mono ?_
  rintro e v2 ⟨rfl, rfl⟩
  go_wp2_with fail
  refine (mend_nil _).mono ?_
  rintro e v2 ⟨rfl, rfl⟩
  go_wp2_with fail
  refine (leaf_nil a0 _).mono ?_
  rintro e v2 ⟨rfl, hb1⟩
  have HB2 := Lib.hid (HB1.out.below hb1 hs1)
  have HL2 := Lib.hid (HL1.out.trans (hb1.mono (by omega)))
  have hs2 : w.heap.size < v2.heap.size := HB2.out.lt
  clear hb1 HB1 HL1 hs1
  rw [zb_arr]
  have HX := Lib.hid (w26_blk v2 zb zb_len)
  have HB3 := Lib.hid (HB2.out.below (w26_below v2 zb) hs2)
  have HL3 := Lib.hid (HL2.out.trans ((w26_below v2 zb).mono (by omega)))
  have hs3 : w.heap.size < (w26 v2 zb).heap.size := HB3.out.lt
  have hs3' : v2.heap.size < (w26 v2 zb).heap.size := HX.out.lt
  clear HB2 HL2
  generalize hW : w26 v2 zb = v3 at *
  have HW := Lib.hid hW
  clear hW
  go_wp2_with (first
    | (with_reducible refine step_alloc 26 zArr Try.zero26 rfl rfl ?_)
    | (refine step_put26 (w := v2) zb _ _ rfl rfl rfl rfl rfl zb_len HW.out ?_))
  refine (awake23 _).mono ?_
  rintro e v4 ⟨rfl, hb1⟩
  have HX4 := Lib.hid (HX.out.below hb1 hs3')
  have HB4 := Lib.hid (HB3.out.below hb1 hs3)
  have HL4 := Lib.hid (HL3.out.trans (hb1.mono (by omega)))
  have hs4 := HX4.out.lt
  have hs4' := HB4.out.lt
  clear hb1 HX HB3 HL3 hs3 hs3'
  go_wp2_with (refine step_loadG 26 _ w.heap.size 0 (bArr a1) rfl rfl rfl HB4.out.all _ Try.underlying26 rfl 48 Try.size26 (bArr_size W1.out.1) ?_)
  refine (ink_nil a0 a1 _).mono ?_
  rintro e v5 ⟨rfl, hb1⟩
  have HX5 := Lib.hid (HX4.out.below hb1 hs4)
  have HL5 := Lib.hid (HL4.out.trans (hb1.mono (by omega)))
  have hs5 := HX5.out.lt
  clear hb1 HX4 HB4 HL4 hs4 hs4'
  go_wp2_with fail
  refine (dry_nil _).mono ?_
  rintro e v6 ⟨rfl, rfl⟩
  go_wp2_with fail
  refine (blot_nil a0 _).mono ?_
  rintro e v6 ⟨rfl, rfl⟩
  go_wp2_with (first
    | (refine step_loadG 26 _ v2.heap.size 0 (bArr zb) rfl rfl rfl HX5.out.all _ Try.underlying26 rfl 48 Try.size26 (bArr_size zb_len) ?_)
    | (refine step_buildG 26 #[] (bArr zb) rfl rfl Try.built26_z ?_)
    | (refine step_eql26 zb zb _ _ _ rfl rfl rfl rfl zb_len zb_len true (by simp) ?_))
  refine (len_nil _).mono ?_
  rintro e v6 ⟨rfl, rfl⟩
  go_wp2_with fail
  refine (wet_nil _).mono ?_
  rintro e v6 ⟨rfl, hb1⟩
  have HL6 := Lib.hid (HL5.out.trans (hb1.mono (by omega)))
  clear hb1 HX5 HL5
  go_wp2_with fail
  refine (down_nil _).mono ?_
  rintro e v7 ⟨rfl, rfl⟩
  go_wp2_with fail
  refine (fork_nil _).mono ?_
  rintro e v7 ⟨rfl, rfl⟩
  go_wp2_with fail
  go_ret
  exact ⟨rfl, HL6.out⟩

theorem new_len (n : Int) : ((Pd.new n).l.length : Int) = max 0 (min n 20000) := by
  unfold Pd.new
  simp
  omega
theorem new_wet (n : Int) : wetN (Pd.new n).l = 0 := by
  unfold Pd.new
  generalize (min (max n 0) 20000).toNat = k
  dsimp only
  induction k with
  | zero => rfl
  | succ k ih => rw [List.replicate_succ]; simp only [wetN]; rw [if_neg (by simp [Lf.zero]), ih]

set_option maxRecDepth 100000 in
set_option maxHeartbeats 1000000 in
theorem outside_core (a0 a1 n' L : Int) (w : World) (p0 : -9223372036854775808 ≤ a0) (p1 : a0 ≤ 9223372036854775807) (p2 : -9223372036854775808 ≤ a1) (p3 : a1 ≤ 9223372036854775807)
    (hL : ((Pd.new a0).l.length : Int) = L) (hL0 : 0 ≤ L) (hL1 : L ≤ 20000) (hLm : L = max 0 (min a0 20000)) (hn : (0 ≤ a1 ∧ a1 < L ∧ n' = L + a1) ∨ ((a1 < 0 ∨ L ≤ a1) ∧ n' = a1)) :
    Calls Try.prog 3 #[.int .i64 a0, .int .i64 a1] w fun e w' => e = .returned (.bool true) ∧ Below w.heap.size w w' := by
  have hout : n' < 0 ∨ ((Pd.new a0).l.length : Int) ≤ n' := by omega
  have HOUT := Lib.hid hout
  have HLL := Lib.hid hL
  have hfw := new_wet a0
  have HFW := Lib.hid hfw
  clear hout hL hfw
  have hcase : (a0 < 0 ∧ L = 0) ∨ (20000 < a0 ∧ L = 20000) ∨ (0 < a0 ∧ a0 ≤ 20000 ∧ L = a0) ∨ (a0 = 0 ∧ L = 0) := by omega
  clear hLm
  rcases hn with ⟨n0, n1, rfl⟩ | ⟨n0, rfl⟩
  · rcases hcase with ⟨g1, rfl⟩ | ⟨g1, rfl⟩ | ⟨g1, g2, rfl⟩ | ⟨rfl, rfl⟩
    · omega
    rotate_right
    · omega
    · go_enter Try.func3, Try.ntmps3
      go_wp2_with fail
      refine (new_any _ p0 p1 _).mono ?_
      rintro e w1 ⟨g, h, rfl, hp, h1, h2, hb⟩
      have HS := Lib.hid (show Stands w w1 w.heap.size g h (Pd.new _) from ⟨hp, hb⟩)
      clear hp hb
      go_wp2_with fail
      refine (awake23 _).mono ?_
      rintro e w2 ⟨rfl, hb⟩
      have HS2 := Lib.hid (HS.out.same (Nat.le_refl _) hb)
      clear hb HS
      go_wp2_with fail
      refine (len_any HS2.out.1).mono ?_
      rintro e w3 ⟨rfl, rfl⟩
      rw [HLL.out]
      go_wp2_with fail
      refine (len_any HS2.out.1).mono ?_
      rintro e w3 ⟨rfl, rfl⟩
      rw [HLL.out]
      go_wp2_with fail
      refine (len_any HS2.out.1).mono ?_
      rintro e w3 ⟨rfl, rfl⟩
      rw [HLL.out]
      go_wp2_with fail
      refine (leaf_out _ HS2.out.1 HOUT.out).mono ?_
      rintro e w4 ⟨rfl, hb⟩
      have HS4 := Lib.hid (HS2.out.same (Nat.le_refl _) hb)
      have hs4 : w.heap.size ≤ w4.heap.size := HS4.out.2.size
      clear hb HS2
      rw [zb_arr]
      have HS5 := Lib.hid (HS4.out.same (Nat.le_refl _) (w26_below w4 zb))
      clear HS4
      generalize hW : w26 w4 zb = w5 at *
      have HW := Lib.hid hW
      clear hW
      go_wp2_with (first | (with_reducible refine step_alloc 26 zArr Try.zero26 rfl rfl ?_) | (refine step_put26 (w := w4) zb _ _ rfl rfl rfl rfl rfl zb_len HW.out ?_) | (refine step_buildG 26 #[] (bArr zb) rfl rfl Try.built26_z ?_))
      refine (ink_out _ zb HS5.out.1 rfl HOUT.out).mono ?_
      rintro e w6 ⟨rfl, hb⟩
      have HS6 := Lib.hid (HS5.out.same (Nat.le_refl _) hb)
      clear hb HS5
      go_wp2_with fail
      refine (blot_out _ HS6.out.1 rfl HOUT.out).mono ?_
      rintro e w7 ⟨rfl, rfl⟩
      go_wp2_with fail
      refine (wet_any HS6.out.1).mono ?_
      rintro e w7 ⟨rfl, hb⟩
      have HS7 := Lib.hid (HS6.out.same (Nat.le_refl _) hb)
      clear hb HS6
      rw [HFW.out]
      go_wp2_with fail
      go_ret
      exact ⟨rfl, HS7.out.2⟩
    · go_enter Try.func3, Try.ntmps3
      go_wp2_with fail
      refine (new_any _ p0 p1 _).mono ?_
      rintro e w1 ⟨g, h, rfl, hp, h1, h2, hb⟩
      have HS := Lib.hid (show Stands w w1 w.heap.size g h (Pd.new _) from ⟨hp, hb⟩)
      clear hp hb
      go_wp2_with fail
      refine (awake23 _).mono ?_
      rintro e w2 ⟨rfl, hb⟩
      have HS2 := Lib.hid (HS.out.same (Nat.le_refl _) hb)
      clear hb HS
      go_wp2_with fail
      refine (len_any HS2.out.1).mono ?_
      rintro e w3 ⟨rfl, rfl⟩
      rw [HLL.out]
      go_wp2_with fail
      refine (len_any HS2.out.1).mono ?_
      rintro e w3 ⟨rfl, rfl⟩
      rw [HLL.out]
      go_wp2_with fail
      refine (len_any HS2.out.1).mono ?_
      rintro e w3 ⟨rfl, rfl⟩
      rw [HLL.out]
      go_wp2_with fail
      refine (leaf_out _ HS2.out.1 HOUT.out).mono ?_
      rintro e w4 ⟨rfl, hb⟩
      have HS4 := Lib.hid (HS2.out.same (Nat.le_refl _) hb)
      have hs4 : w.heap.size ≤ w4.heap.size := HS4.out.2.size
      clear hb HS2
      rw [zb_arr]
      have HS5 := Lib.hid (HS4.out.same (Nat.le_refl _) (w26_below w4 zb))
      clear HS4
      generalize hW : w26 w4 zb = w5 at *
      have HW := Lib.hid hW
      clear hW
      go_wp2_with (first | (with_reducible refine step_alloc 26 zArr Try.zero26 rfl rfl ?_) | (refine step_put26 (w := w4) zb _ _ rfl rfl rfl rfl rfl zb_len HW.out ?_) | (refine step_buildG 26 #[] (bArr zb) rfl rfl Try.built26_z ?_))
      refine (ink_out _ zb HS5.out.1 rfl HOUT.out).mono ?_
      rintro e w6 ⟨rfl, hb⟩
      have HS6 := Lib.hid (HS5.out.same (Nat.le_refl _) hb)
      clear hb HS5
      go_wp2_with fail
      refine (blot_out _ HS6.out.1 rfl HOUT.out).mono ?_
      rintro e w7 ⟨rfl, rfl⟩
      go_wp2_with fail
      refine (wet_any HS6.out.1).mono ?_
      rintro e w7 ⟨rfl, hb⟩
      have HS7 := Lib.hid (HS6.out.same (Nat.le_refl _) hb)
      clear hb HS6
      rw [HFW.out]
      go_wp2_with fail
      go_ret
      exact ⟨rfl, HS7.out.2⟩
  · rcases hcase with ⟨g1, rfl⟩ | ⟨g1, rfl⟩ | ⟨g1, g2, rfl⟩ | ⟨rfl, rfl⟩
    all_goals
      rcases n0 with n0 | n0
      · go_enter Try.func3, Try.ntmps3
        go_wp2_with fail
        refine (new_any _ p0 p1 _).mono ?_
        rintro e w1 ⟨g, h, rfl, hp, h1, h2, hb⟩
        have HS := Lib.hid (show Stands w w1 w.heap.size g h (Pd.new _) from ⟨hp, hb⟩)
        clear hp hb
        go_wp2_with fail
        refine (awake23 _).mono ?_
        rintro e w2 ⟨rfl, hb⟩
        have HS2 := Lib.hid (HS.out.same (Nat.le_refl _) hb)
        clear hb HS
        go_wp2_with fail
        refine (len_any HS2.out.1).mono ?_
        rintro e w3 ⟨rfl, rfl⟩
        rw [HLL.out]
        go_wp2_with fail
        refine (leaf_out _ HS2.out.1 HOUT.out).mono ?_
        rintro e w4 ⟨rfl, hb⟩
        have HS4 := Lib.hid (HS2.out.same (Nat.le_refl _) hb)
        have hs4 : w.heap.size ≤ w4.heap.size := HS4.out.2.size
        clear hb HS2
        rw [zb_arr]
        have HS5 := Lib.hid (HS4.out.same (Nat.le_refl _) (w26_below w4 zb))
        clear HS4
        generalize hW : w26 w4 zb = w5 at *
        have HW := Lib.hid hW
        clear hW
        go_wp2_with (first | (with_reducible refine step_alloc 26 zArr Try.zero26 rfl rfl ?_) | (refine step_put26 (w := w4) zb _ _ rfl rfl rfl rfl rfl zb_len HW.out ?_) | (refine step_buildG 26 #[] (bArr zb) rfl rfl Try.built26_z ?_))
        refine (ink_out _ zb HS5.out.1 rfl HOUT.out).mono ?_
        rintro e w6 ⟨rfl, hb⟩
        have HS6 := Lib.hid (HS5.out.same (Nat.le_refl _) hb)
        clear hb HS5
        go_wp2_with fail
        refine (blot_out _ HS6.out.1 rfl HOUT.out).mono ?_
        rintro e w7 ⟨rfl, rfl⟩
        go_wp2_with fail
        refine (wet_any HS6.out.1).mono ?_
        rintro e w7 ⟨rfl, hb⟩
        have HS7 := Lib.hid (HS6.out.same (Nat.le_refl _) hb)
        clear hb HS6
        rw [HFW.out]
        go_wp2_with fail
        go_ret
        exact ⟨rfl, HS7.out.2⟩
      · go_enter Try.func3, Try.ntmps3
        go_wp2_with fail
        refine (new_any _ p0 p1 _).mono ?_
        rintro e w1 ⟨g, h, rfl, hp, h1, h2, hb⟩
        have HS := Lib.hid (show Stands w w1 w.heap.size g h (Pd.new _) from ⟨hp, hb⟩)
        clear hp hb
        go_wp2_with fail
        refine (awake23 _).mono ?_
        rintro e w2 ⟨rfl, hb⟩
        have HS2 := Lib.hid (HS.out.same (Nat.le_refl _) hb)
        clear hb HS
        go_wp2_with fail
        refine (len_any HS2.out.1).mono ?_
        rintro e w3 ⟨rfl, rfl⟩
        rw [HLL.out]
        go_wp2_with fail
        refine (len_any HS2.out.1).mono ?_
        rintro e w3 ⟨rfl, rfl⟩
        rw [HLL.out]
        go_wp2_with fail
        refine (leaf_out _ HS2.out.1 HOUT.out).mono ?_
        rintro e w4 ⟨rfl, hb⟩
        have HS4 := Lib.hid (HS2.out.same (Nat.le_refl _) hb)
        have hs4 : w.heap.size ≤ w4.heap.size := HS4.out.2.size
        clear hb HS2
        rw [zb_arr]
        have HS5 := Lib.hid (HS4.out.same (Nat.le_refl _) (w26_below w4 zb))
        clear HS4
        generalize hW : w26 w4 zb = w5 at *
        have HW := Lib.hid hW
        clear hW
        go_wp2_with (first | (with_reducible refine step_alloc 26 zArr Try.zero26 rfl rfl ?_) | (refine step_put26 (w := w4) zb _ _ rfl rfl rfl rfl rfl zb_len HW.out ?_) | (refine step_buildG 26 #[] (bArr zb) rfl rfl Try.built26_z ?_))
        refine (ink_out _ zb HS5.out.1 rfl HOUT.out).mono ?_
        rintro e w6 ⟨rfl, hb⟩
        have HS6 := Lib.hid (HS5.out.same (Nat.le_refl _) hb)
        clear hb HS5
        go_wp2_with fail
        refine (blot_out _ HS6.out.1 rfl HOUT.out).mono ?_
        rintro e w7 ⟨rfl, rfl⟩
        go_wp2_with fail
        refine (wet_any HS6.out.1).mono ?_
        rintro e w7 ⟨rfl, hb⟩
        have HS7 := Lib.hid (HS6.out.same (Nat.le_refl _) hb)
        clear hb HS6
        rw [HFW.out]
        go_wp2_with fail
        go_ret
        exact ⟨rfl, HS7.out.2⟩

theorem leafOutside_walk (a0 a1 : Int) (w : World) (w0 : (Lit.int .i64 a0).wf = true) (w1 : (Lit.int .i64 a1).wf = true) :
    Calls Try.prog 3 #[.int .i64 a0, .int .i64 a1] w fun e w' => e = .returned (.bool true) ∧ Below w.heap.size w w' := by
  obtain ⟨p0, p1⟩ := bounds_i64 w0
  obtain ⟨p2, p3⟩ := bounds_i64 w1
  have hL := new_len a0
  by_cases hc : 0 ≤ a1 ∧ a1 < max 0 (min a0 20000)
  · exact outside_core a0 a1 (max 0 (min a0 20000) + a1) _ w (by omega) (by omega) (by omega) (by omega) hL (by omega) (by omega) rfl (.inl ⟨hc.1, hc.2, rfl⟩)
  · exact outside_core a0 a1 a1 _ w (by omega) (by omega) (by omega) (by omega) hL (by omega) (by omega) rfl (.inr ⟨by omega, rfl⟩)
end Go.Proofs.Ytdjkkpefljapcaa
