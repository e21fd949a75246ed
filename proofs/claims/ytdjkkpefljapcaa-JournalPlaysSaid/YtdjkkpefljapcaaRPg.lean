/- The document's Pages: the contract of the call. -/
import Derived.Test.YtdjkkpefljapcaaJPages
import Derived.Great.BuildSlice
import Derived.Deep.AppendLies
namespace Go.Proofs.Ytdjkkpefljapcaa
open Go.RowKit
set_option linter.unusedVariables false
set_option linter.unusedSimpArgs false

/-- The cells of leaves that lie in a row. -/
def pcells (ps : List (List Int)) : List Value := ps.flatMap fun p => p.map (Value.int .u8)
theorem pcells_nil : pcells [] = [] := rfl
theorem pcells_append (a b : List (List Int)) : pcells (a ++ b) = pcells a ++ pcells b := by simp [pcells]
theorem pcells_one (p : List Int) : pcells [p] = p.map (Value.int .u8) := by simp [pcells]
theorem pcells_len {ps : List (List Int)} (h : ∀ p ∈ ps, p.length = 48) : (pcells ps).length = ps.length * 48 := by
  induction ps with
  | nil => rfl
  | cons p ps ih =>
    have := ih (fun q hq => h q (List.mem_cons_of_mem _ hq))
    have h0 := h p (List.mem_cons_self ..)
    simp only [pcells, List.flatMap_cons, List.length_append, List.length_map, List.length_cons] at this ⊢
    omega
theorem pcells_one_cell (ps : List (List Int)) : ∀ u ∈ pcells ps, u.oneCell' = true := by
  intro u hu
  obtain ⟨p, _, hu⟩ := List.mem_flatMap.1 hu
  exact ints_oneCell .u8 p u hu
theorem pcells_drop {ps : List (List Int)} (h : ∀ p ∈ ps, p.length = 48) (k : Nat) (hk : k < ps.length) : ((pcells ps).drop (48 * k)).take 48 = (ps.getD k []).map (Value.int .u8) := by
  induction ps generalizing k with
  | nil => simp at hk
  | cons p ps ih =>
    have h0 := h p (List.mem_cons_self ..)
    have e : pcells (p :: ps) = p.map (Value.int .u8) ++ pcells ps := by simp [pcells]
    cases k with
    | zero =>
      rw [e, Nat.mul_zero, List.drop_zero, List.take_append_of_le_length (by simp [h0]), List.take_of_length_le (by simp [h0])]
      rfl
    | succ k =>
      rw [e, show 48 * (k + 1) = (p.map (Value.int .u8)).length + 48 * k from by simp [h0]; omega, List.drop_append, List.drop_of_length_le (by omega), List.nil_append, Nat.add_sub_cancel_left]
      exact ih (fun q hq => h q (List.mem_cons_of_mem _ hq)) k (by simpa using hk)
theorem Try.info26 : (Try.prog.info? 26).map (fun i => (i.zero, i.size, i.bytes)) = some (some (.agg zArr), 48, 48) := by kernel_rfl
theorem fill_one (place : Nat → Option (Nat × Nat)) (cells : Array Value) (i : Nat) (v : Value) (off size : Nat) (hp : place i = some (off, size)) (hv : v.cells.size = size) (hc : off + size ≤ cells.size) :
    Instr.fill place cells [(i, v)] = some (v.cells.zipIdx.foldl (fun cs (c, j) => cs.setIfInBounds (off + j) c) cells) := by
  unfold Instr.fill
  rw [hp]
  dsimp only
  rw [if_neg (by simp [hv]; omega)]
  rfl
/-- '[][48]byte{x}'. -/
theorem list26 (x : List Int) (hx : x.length = 48) (w : World) : (Instr.buildSlice 61 1 #[(0, .agg (bArr x))]).run Try.prog w = .ok (.slice (some ⟨w.heap.size, 0, none⟩) 1 1) (w.alloc (.cells (bArr x) 26)) := by
  obtain ⟨i0, hi, hz0, hz1, hz2⟩ := info_parts Try.info26
  refine run_buildSlice (P := Try.prog) w 61 26 1 _ (bArr x) i0 _ Try.underlying61 hi hz0 (by rw [hz1]; decide) (by rw [hz1]; decide) ?_
  rw [hz1]
  have hs : (bArr x).size = 48 := bArr_size hx
  refine (fill_one _ _ 0 (.agg (bArr x)) 0 48 rfl hs (by simp)).trans ?_
  show some ((bArr x).zipIdx.foldl (fun cs (c, j) => cs.setIfInBounds (0 + j) c) ((Array.range (1 * 48)).map (zArr[· % zArr.size]!))) = _
  congr 1
  apply Array.ext'
  have key : ∀ (ys : List Value) (pre cs : List Value) , cs.length = ys.length → (ys.zipIdx pre.length).foldl (fun (c : Array Value) (p : Value × Nat) => c.setIfInBounds (0 + p.2) p.1) (pre ++ cs).toArray = (pre ++ ys).toArray := by
    intro ys
    induction ys with
    | nil =>
      intro pre cs h
      simp at h
      simp [h]
    | cons y ys ih =>
      intro pre cs h
      cases cs with
      | nil => simp at h
      | cons c cs =>
        rw [List.zipIdx_cons, List.foldl_cons]
        have := ih (pre ++ [y]) cs (by simpa using h)
        rw [List.length_append, List.length_singleton] at this
        simp only [List.append_assoc, List.singleton_append] at this
        rw [← this]
        congr 1
        simp
  have := key (bArr x).toList [] ((Array.range (1 * 48)).map (zArr[· % zArr.size]!)).toList (by simp [hs])
  simp only [List.nil_append, List.length_nil] at this
  rw [← Array.foldl_toList, Array.toList_zipIdx]
  have e : (Array.range (1 * 48)).map (zArr[· % zArr.size]!) = ((Array.range (1 * 48)).map (zArr[· % zArr.size]!)).toList.toArray := Array.ext' rfl
  rw [e, this]

section
variable {ops : Array Oper} {rest : List Oper} {o : Oper} {a : Act} {w W : World} {Q : Exit → Act → World → Prop}
theorem step_list26 (pg : List Int) (x : Operand) (ho : o.op = .buildSlice 61 1 #[(0, x)]) (hg : o.guard = none) (hx : a.eval x = .agg (bArr pg)) (hl : pg.length = 48) (hW : w.alloc (.cells (bArr pg) 26) = W)
    (h : wpList Try.prog ops Q rest (a.put o.dst (.slice (some ⟨w.heap.size, 0, none⟩) 1 1)) W) : wpList Try.prog ops Q (o :: rest) a w := by
  subst hW
  refine wpList_plain hg fun K hK => ?_
  unfold Oper.wp execOp
  have e : ((#[(0, x)] : Array (Nat × Operand)).map fun (i, x) => (i, a.eval x)) = #[(0, .agg (bArr pg))] := by simp [hx]
  simp only [ho, e, Sem.run_bind, list26 pg hl w, Result.andThen_ok]
  exact hK _ _ h
end
theorem own_val {w : World} {base : Nat} {e : TypeId} {size n : Nat} {v : Value} {xs : List Value} (h : w.ownsRow base e size v n xs) : ∃ A c, v = .slice A n c := by
  rcases h.2 with ⟨rfl, hn⟩ | ⟨g, cap, cur, rfl, _⟩
  · exact ⟨none, 0, by rw [hn]⟩
  · exact ⟨_, _, rfl⟩
set_option maxRecDepth 100000 in
set_option maxHeartbeats 4000000 in
theorem refPages_any (n : Nat) (ad : Addr) (len cap B : Nat) (b : List Int) (w : World) (hm : Nums .u8 w B (some ad) len b) (hB : B ≤ w.heap.size) (hb : isBytes b) (h1 : 1 ≤ len) (h2 : len ≤ 200) (hcap : len ≤ cap) (hcm : cap ≤ maxLen) (hn : n ≤ 19000) :
    Calls Try.prog 40 #[.int .i64 n, .slice (some ad) len cap] w fun e w' => ∃ v, e = .returned v ∧ w'.ownsRow w.heap.size 26 48 v (need b) (pcells (pagesV n b)) ∧ Below w.heap.size w w' := by
  have hl := hm.len
  obtain ⟨i0, hi, hz0, hz1, hz2⟩ := info_parts Try.info26
  have hs : ∀ w, (sizeOf (Try.prog.elem 44)).run Try.prog w = .ok 1 w := fun w => by kernel_rfl
  have HM := Lib.hid hm
  have HB := Lib.hid hb
  have HL := Lib.hid hl
  clear hm hb hl
  go_enter Try.func40, Try.ntmps40
  go_wp2_with fail
  go_loopw [5, 6] (fun v i wr => ∃ k m : Nat, m = 41 * k ∧ i = .int .i64 m ∧ m < len + 41 ∧ wr.ownsRow w.heap.size 26 48 v k (pcells (pgs b n (n + (b.length - 1) / 41) (List.range k))) ∧ Below w.heap.size w wr)
    (fun v i _ => len + 41 - (intOf i).toNat)
  case atStart => exact ⟨0, 0, rfl, rfl, by omega, World.ownsRow_nil _ _ _ _, Below.refl _ _⟩
  case round =>
    obtain ⟨k, m, hm, rfl, hmb, ho, hbl⟩ := hrel
    have HMK := Lib.hid hm
    have HO := Lib.hid ho
    have HBL := Lib.hid hbl
    clear hm ho hbl
    obtain ⟨A, c0, rfl⟩ := own_val HO.out
    have hsz := HBL.out.size
    by_cases hlt : m < len
    · have hkn : k < need b := by have := HMK.out; have := HL.out; unfold need; omega
      have hkl : (pcells (pgs b n (n + (b.length - 1) / 41) (List.range k))).length = k * 48 := by
        rw [pcells_len (fun p hp => by
          obtain ⟨i, hi, rfl⟩ := List.getElem_of_mem hp
          simp only [pgs, List.getElem_mapIdx]
          exact pgOf_len _ _ _ _ _), pgs_len, List.length_range]
      have hk20 : k ≤ 5 := by have := HMK.out; omega
      have hck : chunkB b k = (b.drop m).take 41 := by unfold chunkB; rw [clip_of (by have := HMK.out; have := HL.out; omega), HMK.out]
      have hcn : Nums .u8 wr B (some (ad.add m)) (min 41 (len - m)) (chunkB b k) := by
        have := chunk_nums (HM.out.below (HBL.out.mono hB)) k h1
        rw [clip_of (by have := HMK.out; omega), ← HMK.out] at this
        exact this
      have hfst : ((m : Int) == 0) = decide (k = 0) := by
        have := HMK.out
        rw [Bool.eq_iff_iff, beq_iff_eq, decide_eq_true_iff]
        omega
      have HCN := Lib.hid hcn
      have HKN := Lib.hid hkn
      have HKL := Lib.hid hkl
      clear hkn hkl hcn hck
      by_cases h41 : len ≤ m + 41
      · obtain ⟨c, hc⟩ : ∃ c, min 41 (len - m) = c := ⟨_, rfl⟩
        have hmc : m + c = len := by omega
        have HCC := Lib.hid (show Nums .u8 wr B (some (ad.add m)) c (chunkB b k) from by have := HCN.out; rw [hc] at this; exact this)
        have hsl : ∀ w, (Instr.slice 44 (.slice (some ad) len cap) (some (.int .i64 (m : Int))) (some (.int .i64 (len : Int))) none).run Try.prog w = .ok (.slice (some (ad.add m)) c (cap - m)) w := by
          obtain ⟨A', hA', h⟩ := slice_lh (P := Try.prog) 44 Try.underlying44 (some ad) len cap m c (by omega) 1 hs
          rw [if_neg (by omega), Option.map_some, Nat.mul_one] at hA'
          rw [hA', show (m : Int) + (c : Int) = (len : Int) from by omega] at h
          exact h
        go_wp2_with fail
        refine (refPage_ok ((n : Int) + (k : Int)) (decide (k = 0)) true (ad.add m) c (cap - m) B (chunkB b k) wr (by omega) (by omega) HCC.out (by omega) (chunkB_bytes HB.out k) (by omega) (by omega) (by first | exact .inl rfl | (right; omega))).mono ?_
        rintro e v1 ⟨rfl, hb1⟩
        have hpg : pageV ((n : Int) + (k : Int)) (decide (k = 0)) true (chunkB b k) = pgOf b n (n + (b.length - 1) / 41) k k := by
          unfold pgOf pageT
          have := HMK.out
          have := HL.out
          rw [show ((n + k : Nat) : Int) = (n : Int) + (k : Int) from by omega, decide_eq_true (show n + k = n + (b.length - 1) / 41 from by omega)]
          rw [if_pos]
          first
            | exact .inl rfl
            | (right; have := HCC.out.len; omega)
        rw [hpg]
        obtain ⟨pg, hpg'⟩ : ∃ pg, pgOf b n (n + (b.length - 1) / 41) k k = pg := ⟨_, rfl⟩
        have hpl : pg.length = 48 := by rw [← hpg']; exact pgOf_len _ _ _ _ _
        rw [hpg']
        have HPG := Lib.hid hpg'
        have HPL := Lib.hid hpl
        clear hpg hpg' hpl
        have HO1 := Lib.hid (own_safe (by decide) (by decide) (by decide) (Safe.of_below hb1 none) (.inl rfl) HO.out)
        have HB1 := Lib.hid (HBL.out.trans (hb1.mono hsz))
        clear hb1 HO HBL
        dsimp only
        have HXX := Lib.hid (w26_blk v1 pg HPL.out)
        have HO2 := Lib.hid (own_safe (by decide) (by decide) (by decide) (Safe.of_below (w26_below v1 pg) none) (.inl rfl) HO1.out)
        have HB2 := Lib.hid (HB1.out.trans ((w26_below v1 pg).mono HB1.out.size))
        generalize hW : w26 v1 pg = v2 at *
        have HW := Lib.hid hW
        clear hW HO1 HB1
        have hk3 : Blk (v2.alloc (.cells (bArr pg) 26)) v2.heap.size 26 (bArr pg) := Blk.new v2 26 _
        have HO3 := Lib.hid (own_safe (by decide) (by decide) (by decide) (Safe.of_below ((Below.refl _ _).alloc (Nat.le_refl _) (.cells (bArr pg) 26)) none) (.inl rfl) HO2.out)
        have HB3 := Lib.hid (HB2.out.trans (((Below.refl _ _).alloc (Nat.le_refl _) (.cells (bArr pg) 26)).mono HB2.out.size))
        obtain ⟨v3, hv3⟩ : ∃ v3, v2.alloc (.cells (bArr pg) 26) = v3 := ⟨_, rfl⟩
        have HV3 := Lib.hid hv3
        rw [hv3] at hk3 HO3 HB3
        have HK3 := Lib.hid hk3
        have HPC := Lib.hid (show (pg.map (Value.int .u8)).length = 1 * 48 by simp [HPL.out])
        have hsz3 := HB3.out.size
        clear hv3 hk3
        go_wp2_with (first
          | (with_reducible refine step_alloc 26 zArr Try.zero26 rfl rfl ?_)
          | (refine step_put26 (w := v1) pg _ _ rfl rfl rfl rfl rfl HPL.out HW.out ?_)
          | (refine step_loadG 26 _ v1.heap.size 0 (bArr pg) rfl rfl rfl HXX.out.all _ Try.underlying26 rfl 48 Try.size26 (bArr_size HPL.out) ?_)
          | (refine step_list26 (w := v2) pg _ rfl rfl rfl HPL.out HV3.out ?_)
          | (at_builtin; refine wpList_append_own _ rfl _ _ 61 rfl w.heap.size 26 i0 _ 48 48 Try.underlying61 hi hz0 hz1 hz2 (by decide) (by decide) _ k _ rfl HO3.out ⟨v2.heap.size, 0, none⟩ 1 1 (pg.map (Value.int .u8)) rfl HPC.out ?c1 ?c2 ?c3 ?c4 ?c5 ?_))
        case c1 =>
          intro j u hu
          refine World.news_of_block HK3.out j u ?_
          simpa [bArr] using hu
        case c2 => exact ints_oneCell _ _
        case c3 => unfold maxLen; omega
        case c4 => omega
        case c5 => exact hsz3
        intro v' w4 hown hgr _
        have HB4 := Lib.hid (HB3.out.grown hgr hsz3 (fun k' hk' => (World.ownsRow.lt HO3.out k' hk').1))
        have hown' : w4.ownsRow w.heap.size 26 48 v' (k + 1) (pcells (pgs b n (n + (b.length - 1) / 41) (List.range (k + 1)))) := by
          rw [List.range_succ, pgs_snoc, pcells_append, pcells_one, List.length_range, HPG.out]
          exact hown
        have HO4 := Lib.hid hown'
        clear hown hown' hgr HO3 HB3 HO2 HB2
        go_wp2_with fail
        go_roundw
        case rel => exact ⟨k + 1, m + 41, by have := HMK.out; omega, by go_num, by omega, HO4.out, HB4.out⟩
        case measure => simp [intOf]; omega
      · obtain ⟨c, hc⟩ : ∃ c, min 41 (len - m) = c := ⟨_, rfl⟩
        have hmc : c = 41 := by omega
        subst hmc
        have HCC := Lib.hid (show Nums .u8 wr B (some (ad.add m)) 41 (chunkB b k) from by have := HCN.out; rw [hc] at this; exact this)
        have hlast : ((m : Int) + 41 == (len : Int)) = false := by rw [beq_eq_false_iff_ne]; omega
        have hsl : ∀ w, (Instr.slice 44 (.slice (some ad) len cap) (some (.int .i64 (m : Int))) (some (.int .i64 ((m : Int) + 41))) none).run Try.prog w = .ok (.slice (some (ad.add m)) 41 (cap - m)) w := by
          obtain ⟨A', hA', h⟩ := slice_lh (P := Try.prog) 44 Try.underlying44 (some ad) len cap m 41 (by omega) 1 hs
          rw [if_neg (by omega), Option.map_some, Nat.mul_one] at hA'
          rw [hA', show (m : Int) + ((41 : Nat) : Int) = (m : Int) + 41 from by omega] at h
          exact h
        go_wp2_with fail
        refine (refPage_ok ((n : Int) + (k : Int)) (decide (k = 0)) false (ad.add m) 41 (cap - m) B (chunkB b k) wr (by omega) (by omega) HCC.out (by omega) (chunkB_bytes HB.out k) (by omega) (by omega) (by first | exact .inl rfl | (right; omega))).mono ?_
        rintro e v1 ⟨rfl, hb1⟩
        have hpg : pageV ((n : Int) + (k : Int)) (decide (k = 0)) false (chunkB b k) = pgOf b n (n + (b.length - 1) / 41) k k := by
          unfold pgOf pageT
          have := HMK.out
          have := HL.out
          rw [show ((n + k : Nat) : Int) = (n : Int) + (k : Int) from by omega, decide_eq_false (show ¬ n + k = n + (b.length - 1) / 41 from by omega)]
          rw [if_pos]
          first
            | exact .inl rfl
            | (right; have := HCC.out.len; omega)
        rw [hpg]
        obtain ⟨pg, hpg'⟩ : ∃ pg, pgOf b n (n + (b.length - 1) / 41) k k = pg := ⟨_, rfl⟩
        have hpl : pg.length = 48 := by rw [← hpg']; exact pgOf_len _ _ _ _ _
        rw [hpg']
        have HPG := Lib.hid hpg'
        have HPL := Lib.hid hpl
        clear hpg hpg' hpl
        have HO1 := Lib.hid (own_safe (by decide) (by decide) (by decide) (Safe.of_below hb1 none) (.inl rfl) HO.out)
        have HB1 := Lib.hid (HBL.out.trans (hb1.mono hsz))
        clear hb1 HO HBL
        dsimp only
        have HXX := Lib.hid (w26_blk v1 pg HPL.out)
        have HO2 := Lib.hid (own_safe (by decide) (by decide) (by decide) (Safe.of_below (w26_below v1 pg) none) (.inl rfl) HO1.out)
        have HB2 := Lib.hid (HB1.out.trans ((w26_below v1 pg).mono HB1.out.size))
        generalize hW : w26 v1 pg = v2 at *
        have HW := Lib.hid hW
        clear hW HO1 HB1
        have hk3 : Blk (v2.alloc (.cells (bArr pg) 26)) v2.heap.size 26 (bArr pg) := Blk.new v2 26 _
        have HO3 := Lib.hid (own_safe (by decide) (by decide) (by decide) (Safe.of_below ((Below.refl _ _).alloc (Nat.le_refl _) (.cells (bArr pg) 26)) none) (.inl rfl) HO2.out)
        have HB3 := Lib.hid (HB2.out.trans (((Below.refl _ _).alloc (Nat.le_refl _) (.cells (bArr pg) 26)).mono HB2.out.size))
        obtain ⟨v3, hv3⟩ : ∃ v3, v2.alloc (.cells (bArr pg) 26) = v3 := ⟨_, rfl⟩
        have HV3 := Lib.hid hv3
        rw [hv3] at hk3 HO3 HB3
        have HK3 := Lib.hid hk3
        have HPC := Lib.hid (show (pg.map (Value.int .u8)).length = 1 * 48 by simp [HPL.out])
        have hsz3 := HB3.out.size
        clear hv3 hk3
        go_wp2_with (first
          | (with_reducible refine step_alloc 26 zArr Try.zero26 rfl rfl ?_)
          | (refine step_put26 (w := v1) pg _ _ rfl rfl rfl rfl rfl HPL.out HW.out ?_)
          | (refine step_loadG 26 _ v1.heap.size 0 (bArr pg) rfl rfl rfl HXX.out.all _ Try.underlying26 rfl 48 Try.size26 (bArr_size HPL.out) ?_)
          | (refine step_list26 (w := v2) pg _ rfl rfl rfl HPL.out HV3.out ?_)
          | (at_builtin; refine wpList_append_own _ rfl _ _ 61 rfl w.heap.size 26 i0 _ 48 48 Try.underlying61 hi hz0 hz1 hz2 (by decide) (by decide) _ k _ rfl HO3.out ⟨v2.heap.size, 0, none⟩ 1 1 (pg.map (Value.int .u8)) rfl HPC.out ?c1 ?c2 ?c3 ?c4 ?c5 ?_))
        case c1 =>
          intro j u hu
          refine World.news_of_block HK3.out j u ?_
          simpa [bArr] using hu
        case c2 => exact ints_oneCell _ _
        case c3 => unfold maxLen; omega
        case c4 => omega
        case c5 => exact hsz3
        intro v' w4 hown hgr _
        have HB4 := Lib.hid (HB3.out.grown hgr hsz3 (fun k' hk' => (World.ownsRow.lt HO3.out k' hk').1))
        have hown' : w4.ownsRow w.heap.size 26 48 v' (k + 1) (pcells (pgs b n (n + (b.length - 1) / 41) (List.range (k + 1)))) := by
          rw [List.range_succ, pgs_snoc, pcells_append, pcells_one, List.length_range, HPG.out]
          exact hown
        have HO4 := Lib.hid hown'
        clear hown hown' hgr HO3 HB3 HO2 HB2
        go_wp2_with fail
        go_roundw
        case rel => exact ⟨k + 1, m + 41, by have := HMK.out; omega, by go_num, by omega, HO4.out, HB4.out⟩
        case measure => simp [intOf]; omega
    · have hkn : k = need b := by have := HMK.out; have := HL.out; unfold need; omega
      subst hkn
      go_wp2_with fail
      go_ret
      exact ⟨_, rfl, HO.out, HBL.out⟩
end Go.Proofs.Ytdjkkpefljapcaa
