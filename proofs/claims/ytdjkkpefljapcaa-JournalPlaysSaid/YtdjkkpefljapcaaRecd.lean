/- One statement for Read, and for the document's Read; the contract of journal.record. -/
import Derived.Test.YtdjkkpefljapcaaJpl
import Derived.Test.YtdjkkpefljapcaaJouReadB
import Derived.Test.YtdjkkpefljapcaaJouReadC
import Derived.Test.YtdjkkpefljapcaaJouReadD
import Derived.Test.YtdjkkpefljapcaaJouRefReadC
import Derived.Test.YtdjkkpefljapcaaLeafG
namespace Go.Proofs.Ytdjkkpefljapcaa
open Go.RowKit
set_option linter.unusedVariables false
set_option linter.unusedSimpArgs false

/-- The leaf says something. -/
def good (n : Int) (x : List Int) : Prop := headOk n x ∧ padOk x ∧ sumOk n x
noncomputable def errR (n : Int) (x : List Int) : Int := by
  classical
  exact if headOk n x ∧ padOk x then 16 else 4
theorem errR_ne (n : Int) (x : List Int) : errR n x ≠ 0 := by unfold errR; split <;> decide
/-- What Read hands back. -/
def ReadOut (n : Int) (x : List Int) (w : World) (e : Ending) (w' : World) : Prop :=
  (good n x ∧ ReadGood x w e w') ∨ (¬ good n x ∧ e = .returned (.tuple #[.bool false, .bool false, .slice none 0 0, .int .i64 (errR n x)]) ∧ Below w.heap.size w w')
theorem pad_first {x : List Int} (h : ¬ padOk x) : ∃ p : Nat, 6 + (x.getD 5 0).toNat ≤ p ∧ p < 47 ∧ x.getD p 0 ≠ 0 ∧ ∀ i : Nat, 6 + (x.getD 5 0).toNat ≤ i → i < p → x.getD i 0 = 0 := by
  have hex : ∃ p : Nat, 6 + (x.getD 5 0).toNat ≤ p ∧ p < 47 ∧ x.getD p 0 ≠ 0 := by
    apply Classical.byContradiction
    intro hn
    exact h fun i h1 h2 => Classical.byContradiction fun h3 => hn ⟨i, h1, h2, h3⟩
  obtain ⟨p, hp⟩ := hex
  induction p using Nat.strongRecOn with
  | _ p ih =>
    by_cases hl : ∃ i : Nat, 6 + (x.getD 5 0).toNat ≤ i ∧ i < p ∧ x.getD i 0 ≠ 0
    · obtain ⟨i, h1, h2, h3⟩ := hl
      exact ih i h2 ⟨h1, by omega, h3⟩
    · exact ⟨p, hp.1, hp.2.1, hp.2.2, fun i h1 h2 => Classical.byContradiction fun h3 => hl ⟨i, h1, h2, h3⟩⟩
theorem errR_head {n : Int} {x : List Int} (h : ¬ headOk n x) : errR n x = 4 := by unfold errR; rw [if_neg (fun e => h e.1)]
theorem errR_pad {n : Int} {x : List Int} (h : ¬ padOk x) : errR n x = 4 := by unfold errR; rw [if_neg (fun e => h e.2)]
theorem errR_sum {n : Int} {x : List Int} (h : headOk n x) (h2 : padOk x) : errR n x = 16 := by unfold errR; rw [if_pos ⟨h, h2⟩]

theorem read_any (n : Int) (x : List Int) (hx : x.length = 48) (hb : isBytes x) (hn0 : -9223372036854775808 ≤ n) (hn1 : n ≤ 9223372036854775807) (w : World) : Calls Try.prog 32 #[.int .i64 n, .agg (bArr x)] w fun e w' => ReadOut n x w e w' := by
  by_cases h1 : headOk n x
  · by_cases h2 : padOk x
    · by_cases h3 : sumOk n x
      · exact (read_good n x hx hb w h1 h2 h3).mono fun e w' h => .inl ⟨⟨h1, h2, h3⟩, h⟩
      · refine (read_sum n x hx hb w h1 h2 h3).mono fun e w' h => .inr ⟨fun hg => h3 hg.2.2, ?_⟩
        rw [errR_sum h1 h2]
        exact h
    · obtain ⟨p, p1, p2, p3, p4⟩ := pad_first h2
      refine (read_pad n x p hx hb w h1 p1 p2 p3 p4).mono fun e w' h => .inr ⟨fun hg => h2 hg.2.1, ?_⟩
      rw [errR_pad h2]
      exact h
  · refine (read_head n x hx hb w hn0 hn1 h1).mono fun e w' h => .inr ⟨fun hg => h1 hg.1, ?_⟩
    rw [errR_head h1]
    exact h
theorem refRead_any (n : Int) (x : List Int) (hx : x.length = 48) (hb : isBytes x) (hn0 : -9223372036854775808 ≤ n) (hn1 : n ≤ 9223372036854775807) (w : World) : Calls Try.prog 33 #[.int .i64 n, .agg (bArr x)] w fun e w' => ReadOut n x w e w' := by
  by_cases h1 : headOk n x
  · by_cases h2 : padOk x
    · by_cases h3 : sumOk n x
      · exact (refRead_good n x hx hb w h1 h2 h3).mono fun e w' h => .inl ⟨⟨h1, h2, h3⟩, h⟩
      · refine (refRead_sum n x hx hb w h1 h2 h3).mono fun e w' h => .inr ⟨fun hg => h3 hg.2.2, ?_⟩
        rw [errR_sum h1 h2]
        exact h
    · obtain ⟨p, p1, p2, p3, p4⟩ := pad_first h2
      refine (refRead_pad n x p hx hb w h1 p1 p2 p3 p4).mono fun e w' h => .inr ⟨fun hg => h2 hg.2.1, ?_⟩
      rw [errR_pad h2]
      exact h
  · refine (refRead_head n x hx hb w hn0 hn1 h1).mono fun e w' h => .inr ⟨fun hg => h1 hg.1, ?_⟩
    rw [errR_head h1]
    exact h
theorem part_len {n : Int} {x : List Int} (hx : x.length = 48) (h : headOk n x) : (partOf x).length = (x.getD 5 0).toNat ∧ 1 ≤ (partOf x).length ∧ (partOf x).length ≤ 41 := by
  unfold headOk at h
  have : (partOf x).length = (x.getD 5 0).toNat := by unfold partOf; rw [List.length_take, List.length_drop, hx]; omega
  omega

/-- The record that begins at the head of these leaves, the first of them of number n. -/
noncomputable def recL : Nat → Bool → List Lf → Option (List Int × Nat)
  | _, _, [] => none
  | n, fst, x :: xs => by
    classical
    exact if x.is ≠ 0 ∧ good n x.b ∧ decide (x.b.getD 4 0 % 2 = 1) = fst then (if 2 ≤ x.b.getD 4 0 then some (partOf x.b, n + 1) else (recL (n + 1) false xs).map fun y => (partOf x.b ++ y.1, y.2)) else none
theorem recL_no {n : Nat} {fst : Bool} {x : Lf} {xs : List Lf} (h : ¬ (x.is ≠ 0 ∧ good n x.b ∧ decide (x.b.getD 4 0 % 2 = 1) = fst)) : recL n fst (x :: xs) = none := by
  rw [recL]
  exact if_neg h
theorem recL_last {n : Nat} {fst : Bool} {x : Lf} {xs : List Lf} (h : x.is ≠ 0 ∧ good n x.b ∧ decide (x.b.getD 4 0 % 2 = 1) = fst) (h2 : 2 ≤ x.b.getD 4 0) : recL n fst (x :: xs) = some (partOf x.b, n + 1) := by
  rw [recL]
  simp only [if_pos h, if_pos h2]
theorem recL_more {n : Nat} {fst : Bool} {x : Lf} {xs : List Lf} (h : x.is ≠ 0 ∧ good n x.b ∧ decide (x.b.getD 4 0 % 2 = 1) = fst) (h2 : ¬ 2 ≤ x.b.getD 4 0) : recL n fst (x :: xs) = (recL (n + 1) false xs).map fun y => (partOf x.b ++ y.1, y.2) := by
  rw [recL]
  simp only [if_pos h, if_neg h2]

theorem PadAt.grown {w w' : World} {g h base size n : Nat} {p : Pd} {e : TypeId} {v : Value} {xs : List Value} (a : PadAt w g h p) (hg : w.grownBy w' v.ownBlock) (ho : w.ownsRow base e size v n xs) (h1 : e ≠ 73) (h2 : e ≠ 76) : PadAt w' g h p := by
  have hk : ∀ k t cs, Blk w k t cs → t ≠ e → some k ≠ v.ownBlock := by
    intro k t cs hb ht he
    rcases ho.2 with ⟨rfl, _⟩ | ⟨g', cap, cur, rfl, _, hh, _⟩
    · cases he
    · injection he with he
      subst he
      exact ht (hb.ty hh)
  exact ⟨a.head.grown hg (hk _ _ _ a.head h1.symm), a.row.grown hg (hk _ _ _ a.row h2.symm), a.ok, a.ne, a.len, a.snag, a.falls⟩

/-- What record hands back. -/
def RecOut (p : Pd) (n : Nat) (w : World) (e : Ending) (w' : World) : Prop :=
  ((recL n true (p.l.drop n) = none ∧ e = .returned (.tuple #[.slice none 0 0, .int .i64 0, .bool false])) ∨
   (∃ b m v, recL n true (p.l.drop n) = some (b, m) ∧ e = .returned (.tuple #[v, .int .i64 (m : Nat), .bool true]) ∧ OwnB w' w.heap.size v b)) ∧ Below w.heap.size w w'

theorem Try.results59s : Try.f59.results = #[.tmp 4, .tmp 5, .tmp 6] := by kernel_rfl

set_option maxRecDepth 100000 in
set_option maxHeartbeats 4000000 in
theorem record_any {w : World} {g h : Nat} {p : Pd} (n : Nat) (hp : PadAt w g h p) (hn : n ≤ 20000) : Calls Try.prog 59 #[.pointer (some ⟨g, 0, none⟩), .int .i64 n] w fun e w' => RecOut p n w e w' := by
  obtain ⟨i0, hi, hz0, hz1, hz2⟩ := info_parts Try.info_u8
  have hpl := hp.len
  have HP := Lib.hid hp
  clear hp
  go_enter Try.func59, Try.ntmps59
  go_wp2_with fail
  go_loopw [1, 7] (fun i v wr => ∃ (k : Nat) (acc : List Int), n ≤ k ∧ k ≤ p.l.length + n ∧ i = .int .i64 (k : Nat) ∧ OwnB wr w.heap.size v acc ∧ acc.length ≤ 41 * (k - n) ∧ PadAt wr g h p ∧ Below w.heap.size w wr ∧
      (∀ R, recL k (decide (k = n)) (p.l.drop k) = R → recL n true (p.l.drop n) = R.map fun y => (acc ++ y.1, y.2)))
    (fun i v _ => p.l.length + n + 1 - (intOf i).toNat)
  case atStart =>
    refine ⟨n, [], Nat.le_refl _, by omega, rfl, World.ownsRow_nil _ _ _ _, by simp, HP.out, Below.refl _ _, fun R hR => ?_⟩
    rw [decide_eq_true rfl] at hR
    rw [hR]
    cases R <;> simp
  case round =>
    obtain ⟨k, acc, hk1, hk2, rfl, ho, hal, hp, hb, hrec⟩ := hrel
    have HREC := Lib.hid hrec
    have HO := Lib.hid ho
    have HPR := Lib.hid hp
    have HBE := Lib.hid hb
    clear hrec ho hp hb
    have hsz := HBE.out.size
    by_cases h0 : (p.at k).is = 0
    · have hno : recL k (decide (k = n)) (p.l.drop k) = none := by
        by_cases hkl : k < p.l.length
        · rw [List.drop_eq_getElem_cons hkl]
          refine recL_no (fun hh => hh.1 ?_)
          have : p.at k = p.l[k] := by simp [Pd.at, List.getD, hkl]
          rw [← this]
          exact h0
        · rw [List.drop_of_length_le (by omega)]
          rfl
      have hres := HREC.out none hno
      have HRES := Lib.hid hres
      clear hno hres
      go_wp2_with fail
      refine (leaf_any k HPR.out).mono ?_
      rintro e v1 ⟨rfl, hb1⟩
      rw [show p.tell k = (zb, false) from if_pos h0]
      have HB1 := Lib.hid (HBE.out.trans (hb1.mono hsz))
      have HX := Lib.hid (w26_below v1 zb)
      clear hb1
      dsimp only
      generalize hW : w26 v1 zb = v2 at *
      have HW := Lib.hid hW
      clear hW
      go_wp2_with (first
        | (with_reducible refine step_alloc 26 zArr Try.zero26 rfl rfl ?_)
        | (refine step_put26 (w := v1) zb _ _ rfl rfl rfl rfl rfl zb_len HW.out ?_))
      refine bodyPost_ret (v := .tuple #[.slice none 0 0, .int .i64 0, .bool false]) (by simp [results, Try.results59s, go_sem]) rfl ⟨.inl ⟨HRES.out, rfl⟩, HB1.out.trans (HX.out.mono HB1.out.size)⟩
    · have hkl : k < p.l.length := by
        apply Classical.byContradiction
        intro hh
        exact h0 (by simp [Pd.at, List.getD, List.getElem?_eq_none (Nat.le_of_not_lt hh), Lf.zero])
      have hat : p.at k = p.l[k] := by simp [Pd.at, List.getD, hkl]
      have hdrop : p.l.drop k = p.at k :: p.l.drop (k + 1) := by rw [hat]; exact List.drop_eq_getElem_cons hkl
      obtain ⟨bl, bb⟩ : (p.at k).b.length = 48 ∧ isBytes (p.at k).b := by
        have := HPR.out.ok.getD k
        exact ⟨this.1, this.2.1⟩
      obtain ⟨x, hx⟩ : ∃ x, (p.at k).b = x := ⟨_, rfl⟩
      rw [hx] at bl bb
      have HXL := Lib.hid bl
      have HXB := Lib.hid bb
      have HXE := Lib.hid hx
      have HDR := Lib.hid hdrop
      clear bl bb hdrop hat
      go_wp2_with fail
      refine (leaf_any k HPR.out).mono ?_
      rintro e v1 ⟨rfl, hb1⟩
      rw [show p.tell k = (x, true) from by rw [← hx]; exact if_neg h0]
      clear hx
      have HO1 := Lib.hid (HO.out.safe (Safe.of_below hb1 none) (fun k e => by cases e))
      have HP1 := Lib.hid (HPR.out.below hb1)
      have HB1 := Lib.hid (HBE.out.trans (hb1.mono hsz))
      have HX := Lib.hid (w26_below v1 x)
      have HXX := Lib.hid (w26_blk v1 x HXL.out)
      clear hb1 HO HPR HBE
      dsimp only
      have HB2 := Lib.hid (HB1.out.trans (HX.out.mono HB1.out.size))
      have HP2 := Lib.hid (HP1.out.below HX.out)
      have HO2 := Lib.hid (HO1.out.safe (Safe.of_below HX.out none) (fun k e => by cases e))
      generalize hW : w26 v1 x = v2 at *
      have HW := Lib.hid hW
      clear hW HB1 HP1 HO1 HX
      go_wp2_with (first
        | (with_reducible refine step_alloc 26 zArr Try.zero26 rfl rfl ?_)
        | (refine step_put26 (w := v1) x _ _ rfl rfl rfl rfl rfl HXL.out HW.out ?_)
        | (refine step_loadG 26 _ v1.heap.size 0 (bArr x) rfl rfl rfl HXX.out.all _ Try.underlying26 rfl 48 Try.size26 (bArr_size HXL.out) ?_))
      refine (read_any k x HXL.out HXB.out (by omega) (by omega) _).mono ?_
      rintro e v3 (⟨hg, v, rfl, hov, hb3⟩ | ⟨hg, rfl, hb3⟩)
      · have HG := Lib.hid hg
        obtain ⟨hp1, hp41⟩ := (part_len HXL.out hg.1).2
        obtain ⟨pt, hpt⟩ : ∃ pt, partOf x = pt := ⟨_, rfl⟩
        rw [hpt] at hp1 hp41 hov
        have HPT := Lib.hid hpt
        clear hpt
        obtain ⟨A0, c0, rfl, hrd⟩ := own_form hov
        obtain ⟨b0, o0, rfl, hlt0, _⟩ := hrd.lit (by omega) (by omega)
        have HNU := Lib.hid (show Nums .u8 v3 v3.heap.size (some ⟨b0, o0, none⟩) (pt).length (pt) from hrd)
        have HPL := Lib.hid (show ((pt).map (Value.int .u8)).length = (pt).length * 1 by simp)
        have HO3 := Lib.hid (show v3.ownsRow w.heap.size 5 1 _ acc.length (acc.map (Value.int .u8)) from HO2.out.safe (Safe.of_below hb3 none) (fun k e => by cases e))
        have HP3 := Lib.hid (HP2.out.below hb3)
        have HB3 := Lib.hid (HB2.out.trans (hb3.mono HB2.out.size))
        have hsz3 := HB3.out.size
        clear hg hov hb3 hrd HO2 HP2 HB2
        by_cases hkn : k = n
        · have HKN' := Lib.hid hkn
          have hkb : ((k : Int) == (n : Int)) = true := by rw [hkn]; exact beq_self_eq_true _
          cases hf1 : decide (x.getD 4 0 % 2 = 1) with
          | true =>
            have HF := Lib.hid hf1
            clear hf1
            have hhead : (p.at k).is ≠ 0 ∧ good k (p.at k).b ∧ decide ((p.at k).b.getD 4 0 % 2 = 1) = decide (k = n) := by
              rw [HXE.out]
              exact ⟨h0, HG.out, by rw [HF.out]; simp [HKN'.out]⟩
            have HHD := Lib.hid hhead
            clear hhead
            have hfin : ∀ v' w4, w4.ownsRow w.heap.size 5 1 v' (acc.length + (pt).length) (acc.map (Value.int .u8) ++ (pt).map (Value.int .u8)) → OwnB w4 w.heap.size v' (acc ++ pt) := by
              intro v' w4 hh
              unfold OwnB
              rw [List.length_append, List.map_append]
              exact hh
            have HFIN := Lib.hid hfin
            clear hfin
            cases hl1 : decide (2 ≤ x.getD 4 0) with
            | true =>
              have hrl := recL_last (xs := p.l.drop (k + 1)) HHD.out (by rw [HXE.out]; exact of_decide_eq_true hl1)
              rw [← HDR.out, HXE.out, HPT.out] at hrl
              have HRES := Lib.hid (HREC.out _ hrl)
              clear hrl hl1
              go_wp2_with (at_builtin; refine wpList_append_own _ rfl _ _ 44 rfl w.heap.size 5 i0 _ 1 1 Try.underlying44 hi hz0 hz1 hz2 rfl (by decide) _ acc.length (acc.map (Value.int .u8)) rfl HO3.out ⟨b0, o0, none⟩ (pt).length c0 ((pt).map (Value.int .u8)) rfl HPL.out ?c1 ?c2 ?c3 ?c4 ?c5 ?_)
              case c1 => exact HNU.out.src (by omega)
              case c2 => exact ints_oneCell _ _
              case c3 => unfold maxLen; omega
              case c4 => omega
              case c5 => exact hsz3
              intro v' w4 hown hgr _
              have hob := HFIN.out v' w4 hown
              have HB4 := Lib.hid (HB3.out.grown hgr hsz3 (fun k' hk' => (World.ownsRow.lt HO3.out k' hk').1))
              clear hown hgr
              go_wp2_with fail
              exact bodyPost_ret (v := .tuple #[v', .int .i64 ((k + 1 : Nat) : Int), .bool true]) (by simp [results, Try.results59s, go_sem] <;> omega) rfl ⟨.inr ⟨_, k + 1, v', HRES.out, rfl, hob⟩, HB4.out⟩
            | false =>
              have hrl := recL_more (xs := p.l.drop (k + 1)) HHD.out (by rw [HXE.out]; exact of_decide_eq_false hl1)
              rw [← HDR.out, HXE.out, HPT.out] at hrl
              have HRL := Lib.hid hrl
              clear hrl hl1
              go_wp2_with (at_builtin; refine wpList_append_own _ rfl _ _ 44 rfl w.heap.size 5 i0 _ 1 1 Try.underlying44 hi hz0 hz1 hz2 rfl (by decide) _ acc.length (acc.map (Value.int .u8)) rfl HO3.out ⟨b0, o0, none⟩ (pt).length c0 ((pt).map (Value.int .u8)) rfl HPL.out ?c1 ?c2 ?c3 ?c4 ?c5 ?_)
              case c1 => exact HNU.out.src (by omega)
              case c2 => exact ints_oneCell _ _
              case c3 => unfold maxLen; omega
              case c4 => omega
              case c5 => exact hsz3
              intro v' w4 hown hgr _
              have HOB := Lib.hid (HFIN.out v' w4 hown)
              have HB4 := Lib.hid (HB3.out.grown hgr hsz3 (fun k' hk' => (World.ownsRow.lt HO3.out k' hk').1))
              have HP4 := Lib.hid (HP3.out.grown hgr HO3.out (by decide) (by decide))
              clear hown hgr
              go_wp2_with fail
              go_roundw
              case rel =>
                refine ⟨k + 1, acc ++ pt, by omega, by omega, by go_num, HOB.out, ?_, HP4.out, HB4.out, fun R hR => ?_⟩
                · rw [List.length_append]
                  omega
                · have e1 : decide (k + 1 = n) = false := decide_eq_false (by omega)
                  rw [e1] at hR
                  have := HREC.out _ (HRL.out.trans (by rw [hR]))
                  rw [this]
                  cases R <;> simp
              case measure => simp [intOf]; omega
          | false =>
            have HF := Lib.hid hf1
            clear hf1
            have hno : recL k (decide (k = n)) (p.l.drop k) = none := by
              rw [HDR.out]
              refine recL_no (fun hh => ?_)
              rw [HXE.out] at hh
              have := hh.2.2
              rw [HF.out] at this
              simp [HKN'.out] at this
            have HRES := Lib.hid (HREC.out none hno)
            clear hno
            go_wp2_with fail
            exact bodyPost_ret (v := .tuple #[.slice none 0 0, .int .i64 0, .bool false]) (by simp [results, Try.results59s, go_sem]) rfl ⟨.inl ⟨HRES.out, rfl⟩, HB3.out⟩
        · have hkb : ((k : Int) == (n : Int)) = false := by rw [beq_eq_false_iff_ne]; omega
          have HKN' := Lib.hid hkn
          cases hf1 : decide (x.getD 4 0 % 2 = 1) with
          | true =>
            have HF := Lib.hid hf1
            clear hf1
            have hno : recL k (decide (k = n)) (p.l.drop k) = none := by
              rw [HDR.out]
              refine recL_no (fun hh => ?_)
              rw [HXE.out] at hh
              have := hh.2.2
              rw [HF.out] at this
              simp [HKN'.out] at this
            have HRES := Lib.hid (HREC.out none hno)
            clear hno
            go_wp2_with fail
            exact bodyPost_ret (v := .tuple #[.slice none 0 0, .int .i64 0, .bool false]) (by simp [results, Try.results59s, go_sem]) rfl ⟨.inl ⟨HRES.out, rfl⟩, HB3.out⟩
          | false =>
            have HF := Lib.hid hf1
            clear hf1
            have hhead : (p.at k).is ≠ 0 ∧ good k (p.at k).b ∧ decide ((p.at k).b.getD 4 0 % 2 = 1) = decide (k = n) := by
              rw [HXE.out]
              exact ⟨h0, HG.out, by rw [HF.out]; simp [HKN'.out]⟩
            have HHD := Lib.hid hhead
            clear hhead
            have hfin : ∀ v' w4, w4.ownsRow w.heap.size 5 1 v' (acc.length + (pt).length) (acc.map (Value.int .u8) ++ (pt).map (Value.int .u8)) → OwnB w4 w.heap.size v' (acc ++ pt) := by
              intro v' w4 hh
              unfold OwnB
              rw [List.length_append, List.map_append]
              exact hh
            have HFIN := Lib.hid hfin
            clear hfin
            cases hl1 : decide (2 ≤ x.getD 4 0) with
            | true =>
              have hrl := recL_last (xs := p.l.drop (k + 1)) HHD.out (by rw [HXE.out]; exact of_decide_eq_true hl1)
              rw [← HDR.out, HXE.out, HPT.out] at hrl
              have HRES := Lib.hid (HREC.out _ hrl)
              clear hrl hl1
              go_wp2_with (at_builtin; refine wpList_append_own _ rfl _ _ 44 rfl w.heap.size 5 i0 _ 1 1 Try.underlying44 hi hz0 hz1 hz2 rfl (by decide) _ acc.length (acc.map (Value.int .u8)) rfl HO3.out ⟨b0, o0, none⟩ (pt).length c0 ((pt).map (Value.int .u8)) rfl HPL.out ?c1 ?c2 ?c3 ?c4 ?c5 ?_)
              case c1 => exact HNU.out.src (by omega)
              case c2 => exact ints_oneCell _ _
              case c3 => unfold maxLen; omega
              case c4 => omega
              case c5 => exact hsz3
              intro v' w4 hown hgr _
              have hob := HFIN.out v' w4 hown
              have HB4 := Lib.hid (HB3.out.grown hgr hsz3 (fun k' hk' => (World.ownsRow.lt HO3.out k' hk').1))
              clear hown hgr
              go_wp2_with fail
              exact bodyPost_ret (v := .tuple #[v', .int .i64 ((k + 1 : Nat) : Int), .bool true]) (by simp [results, Try.results59s, go_sem] <;> omega) rfl ⟨.inr ⟨_, k + 1, v', HRES.out, rfl, hob⟩, HB4.out⟩
            | false =>
              have hrl := recL_more (xs := p.l.drop (k + 1)) HHD.out (by rw [HXE.out]; exact of_decide_eq_false hl1)
              rw [← HDR.out, HXE.out, HPT.out] at hrl
              have HRL := Lib.hid hrl
              clear hrl hl1
              go_wp2_with (at_builtin; refine wpList_append_own _ rfl _ _ 44 rfl w.heap.size 5 i0 _ 1 1 Try.underlying44 hi hz0 hz1 hz2 rfl (by decide) _ acc.length (acc.map (Value.int .u8)) rfl HO3.out ⟨b0, o0, none⟩ (pt).length c0 ((pt).map (Value.int .u8)) rfl HPL.out ?c1 ?c2 ?c3 ?c4 ?c5 ?_)
              case c1 => exact HNU.out.src (by omega)
              case c2 => exact ints_oneCell _ _
              case c3 => unfold maxLen; omega
              case c4 => omega
              case c5 => exact hsz3
              intro v' w4 hown hgr _
              have HOB := Lib.hid (HFIN.out v' w4 hown)
              have HB4 := Lib.hid (HB3.out.grown hgr hsz3 (fun k' hk' => (World.ownsRow.lt HO3.out k' hk').1))
              have HP4 := Lib.hid (HP3.out.grown hgr HO3.out (by decide) (by decide))
              clear hown hgr
              go_wp2_with fail
              go_roundw
              case rel =>
                refine ⟨k + 1, acc ++ pt, by omega, by omega, by go_num, HOB.out, ?_, HP4.out, HB4.out, fun R hR => ?_⟩
                · rw [List.length_append]
                  omega
                · have e1 : decide (k + 1 = n) = false := decide_eq_false (by omega)
                  rw [e1] at hR
                  have := HREC.out _ (HRL.out.trans (by rw [hR]))
                  rw [this]
                  cases R <;> simp
              case measure => simp [intOf]; omega
      · have hno : recL k (decide (k = n)) (p.l.drop k) = none := by
          rw [HDR.out]
          refine recL_no (fun hh => hg ?_)
          rw [← HXE.out]
          exact hh.2.1
        have hres := HREC.out none hno
        have HRES := Lib.hid hres
        have hne := errR_ne k x
        have HB3 := Lib.hid (HB2.out.trans (hb3.mono HB2.out.size))
        clear hno hres hg hb3
        generalize errR k x = er at *
        have hne' : (er != 0) = true := by simpa using hne
        go_wp2_with fail
        refine bodyPost_ret (v := .tuple #[.slice none 0 0, .int .i64 0, .bool false]) (by simp [results, Try.results59s, go_sem]) rfl ⟨.inl ⟨HRES.out, rfl⟩, HB3.out⟩
end Go.Proofs.Ytdjkkpefljapcaa
