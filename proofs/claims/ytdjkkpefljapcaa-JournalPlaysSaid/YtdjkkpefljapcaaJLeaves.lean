/- JournalLeaves: the leaves that the pad holds are the document's pages. -/
import Derived.Test.YtdjkkpefljapcaaCrash
import Derived.Test.YtdjkkpefljapcaaRPg
import Derived.Test.YtdjkkpefljapcaaJTorn
import Derived.Test.YtdjkkpefljapcaaOpenBL
namespace Go.Proofs.Ytdjkkpefljapcaa
open Go.RowKit
set_option linter.unusedVariables false
set_option linter.unusedSimpArgs false

section
variable {w0 w w' : World} {g h j N : Nat} {F s : Int} {rs : List (List Int)} {v : Value}
/-- A row of another type grows. -/
theorem St.grown {base size n : Nat} {e : TypeId} {vw : Value} {xs : List Value} (a : St w0 w g h j N F s rs v) (ho : w.ownsRow base e size vw n xs) (hg : w.grownBy w' vw.ownBlock) (hb : w0.heap.size ≤ base) (h1 : e ≠ 73) (h2 : e ≠ 76) (h3 : e ≠ 87) (h4 : e ≠ 44) (h5 : e ≠ 5) : St w0 w' g h j N F s rs v := by
  have hty : ∀ k, vw.ownBlock = some k → ∃ cs, Blk w k e cs := by
    intro k hk
    rcases ho.2 with ⟨rfl, _⟩ | ⟨g', cap, cur, rfl, _, hh, _⟩
    · simp [Value.ownBlock] at hk
    · simp [Value.ownBlock] at hk
      subst hk
      exact ⟨cur, hh⟩
  have hkeep : ∀ k t cs, t ≠ e → Blk w k t cs → Blk w' k t cs := by
    intro k t cs ht hb
    refine hb.grown hg (fun he => ?_)
    obtain ⟨cs', hh⟩ := hty k he.symm
    exact ht (hb.ty hh)
  have hsafe : Safe vw.ownBlock w w' := fun k t cs _ _ _ hx hb => hb.grown hg (fun e => hx e.symm)
  refine ⟨a.pad.grown hg ho h1 h2, ⟨hkeep _ _ _ h3.symm a.jou.head, ?_, a.jou.falls, a.jou.used, a.jou.many⟩, a.ge, a.below.grown hg a.below.size (fun k hk => Nat.le_trans hb (ho.lt k hk).1), a.fit, a.big⟩
  cases hv : vw.ownBlock with
  | none => rw [hv] at hsafe; exact a.jou.recs.safe hsafe (.inl rfl)
  | some k =>
    obtain ⟨cs, hh⟩ := hty k hv
    rw [hv] at hsafe
    refine a.jou.recs.safe hsafe (.inr ⟨fun hk => ?_, fun k' hk' cs' hb' => ?_⟩)
    · obtain ⟨_, _, cs', hb'⟩ := a.jou.recs.block k hk
      exact h4 (hh.ty hb')
    · injection hk' with hk'
      subst hk'
      exact h5 (hh.ty hb')
/-- A row of another type stays while the journal's row turns. -/
theorem St.keeps {base size n : Nat} {e : TypeId} {vw : Value} {xs : List Value} (a : St w0 w g h j N F s rs v) (ho : w.ownsRow base e size vw n xs) (hs : Safe v.ownBlock w w') (h1 : e ≠ 73) (h2 : e ≠ 76) (h3 : e ≠ 87) (h4 : e ≠ 44) : w'.ownsRow base e size vw n xs := by
  refine own_safe h1 h2 h3 hs ?_ ho
  cases hv : v.ownBlock with
  | none => exact .inl rfl
  | some k =>
    right
    intro hk
    obtain ⟨_, _, cs, hb⟩ := a.jou.recs.block k hv
    rcases ho.2 with ⟨rfl, _⟩ | ⟨g', cap, cur, rfl, _, hh, _⟩
    · simp [Value.ownBlock] at hk
    · simp [Value.ownBlock] at hk
      subst hk
      exact h4 (Blk.ty hh hb)
end

theorem padOf_tell {N : Nat} {F s : Int} {rs : List (List Int)} {k : Nat} : (padOf N F s rs).tell k = if k < usedBy rs then ((laid 0 rs).getD k [], true) else (zb, false) := by
  unfold Pd.tell
  by_cases h : k < usedBy rs
  · have e : (padOf N F s rs).at k = ⟨2, (laid 0 rs).getD k []⟩ := by
      unfold Pd.at padOf
      simp only [List.getD]
      have hl : k < (laid 0 rs).length := by rw [laid_len]; exact h
      rw [List.getElem?_append_left (by simpa using hl), List.getElem?_map, List.getElem?_eq_getElem hl]
      rfl
    rw [e, if_neg (by show ¬ (2 : Int) = 0; decide), if_pos h]
  · rw [if_pos (padOf_at (by omega)), if_neg h]
    rfl
theorem laid_48 (rs : List (List Int)) : ∀ n, ∀ p ∈ laid n rs, p.length = 48 := by
  induction rs with
  | nil => intro n p hp; cases hp
  | cons b rs ih =>
    intro n p hp
    rw [laid] at hp
    rcases List.mem_append.1 hp with hp | hp
    · unfold pagesV pgs at hp
      obtain ⟨i, hi, rfl⟩ := List.getElem_of_mem hp
      simp only [List.getElem_mapIdx]
      exact pgOf_len _ _ _ _ _
    · exact ih _ p hp
/-- One leaf of the row of leaves. -/
theorem laid_range {w : World} {base : Nat} {bw : Nat} {cw n : Nat} {ps : List (List Int)} (h : w.ownsRow base 26 48 (.slice (some ⟨bw, 0, none⟩) n cw) n (pcells ps)) (hp : ∀ p ∈ ps, p.length = 48) (k : Nat) (hk : k < ps.length) : w.rangeAt bw (k * 48) (bArr (ps.getD k [])).toList := by
  intro j u hu
  have hj : j < 48 := by
    have := (List.getElem?_eq_some_iff.1 hu).1
    have e : (ps.getD k []).length = 48 := by rw [List.getD, List.getElem?_eq_getElem hk]; exact hp _ (List.getElem_mem hk)
    rw [← e]
    simpa [bArr] using this
  have := h.cells (g := bw) rfl (k * 48 + j) u (by
    have e := pcells_drop hp k hk
    have e2 : (((pcells ps).drop (48 * k)).take 48)[j]? = some u := by rw [e]; simpa [bArr] using hu
    rw [List.getElem?_take_of_lt hj, List.getElem?_drop] at e2
    rw [Nat.mul_comm k 48]
    exact e2)
  rwa [Addr.add_lit, Nat.zero_add] at this
section
variable {P : Program} {ops : Array Oper} {C : World → Prop} {Q : Act → Prop} {a : Act} {o : Oper} {rest : List Oper}
theorem quiet_valueG (hg : Region.wanted o (yielded ops a.tmps) = true) (v : Value) (hrun : ∀ w, C w → (execOp a.eval o).run P w = .ok (.value v) w) (h : wpQuiet P ops C Q rest (a.put o.dst v)) : wpQuiet P ops C Q (o :: rest) a := by
  refine wpQuiet_step fun K hK => ?_
  rw [if_pos hg]
  exact ⟨v, fun w hw => by unfold Oper.quietAt; rw [hrun w hw]; exact ⟨rfl, rfl⟩, hK _ h⟩
theorem quiet_loadG (ty : TypeId) (x : Operand) (b f : Nat) (D : Array Value) (ho : o.op = .load ty x) (hg : Region.wanted o (yielded ops a.tmps) = true) (hx : a.eval x = .pointer (some ⟨b, f, none⟩)) (hc : ∀ w, C w → w.rangeAt b f D.toList) (d : TypeDesc)
    (hu : P.underlying ty = some d) (hd : d.isRow = true) (n : Nat) (hi : (P.info? ty).map (·.size) = some n) (hn : D.size = n) (h : wpQuiet P ops C Q rest (a.put o.dst (.agg D))) : wpQuiet P ops C Q (o :: rest) a := by
  refine quiet_valueG hg (.agg D) (fun w hw => ?_) h
  have := run_loadAt_mid (P := P) w b f ty D.toList d (hc w hw) hu hd (by rw [hi, ← hn]; simp)
  unfold execOp
  simp only [ho, hx, Sem.run_bind, this, Result.andThen_ok]
  simp
theorem quiet_neq26 {ops : Array Oper} {C : World → Prop} {Q : Act → Prop} {a : Act} {o : Oper} {rest : List Oper} (bs : List Int) (x y : Operand) (r : TypeId) (ho : o.op = .binOp .neq 26 x y r) (hg : Region.wanted o (yielded ops a.tmps) = true) (hx : a.eval x = .agg (bArr bs)) (hy : a.eval y = .agg (bArr bs)) (hb : bs.length = 48)
    (h : wpQuiet Try.prog ops C Q rest (a.put o.dst (.bool false))) : wpQuiet Try.prog ops C Q (o :: rest) a := by
  refine quiet_valueG hg (.bool false) (fun w hw => ?_) h
  unfold execOp
  simp only [ho, hx, hy, Sem.run_bind, run_eqGuard_agg w .neq 26 x y _ _ guard26, Result.andThen_ok, run_neq_struct, eql26 w bs bs hb hb, Sem.run_pure]
  simp
end

set_option maxRecDepth 100000 in
set_option maxHeartbeats 4000000 in
theorem leaves_core (A : Option Addr) (len cap : Nat) (l : List Sl) (w : World) (hr : Reads w w.heap.size 1 A len (l.map Sl.val)) (hok : ∀ e ∈ l, e.ok w) (hlen : len ≤ 10) :
    Calls Try.prog 11 #[.slice A len cap] w fun e w' => e = .returned (.bool true) ∧ Below w.heap.size w w' := by
  obtain ⟨i0, hi, hz0, hz1, hz2⟩ := info_parts Try.info26
  have hll : l.length = len := by have := hr.1; simpa using this
  have e10 : decide (10 < (len : Int)) = false := decide_eq_false (by omega)
  have HR := Lib.hid hr
  have HOK := Lib.hid hok
  have HLL := Lib.hid hll
  clear hr hok hll
  go_enter Try.func11, Try.ntmps11
  go_wp2_with fail
  refine (new_any 60 (by omega) (by omega) _).mono ?_
  rintro e w1 ⟨g, h, rfl, hp, h1, h2, hb⟩
  have HO := Lib.hid (St.new (w0 := w) hp h1 h2 hb)
  clear hp h1 h2 hb
  go_wp2_with fail
  refine HO.out.mono ?_
  rintro e w2 ⟨j, v, rfl, hs⟩
  have HS := Lib.hid (show St w w2 g h j 60 0 0 [] v from hs)
  clear hs HO
  go_wp2_with fail
  refine (awake24 _).mono ?_
  rintro e w3 ⟨rfl, hb3⟩
  have HS3 := Lib.hid (HS.out.next hb3)
  clear hb3 HS
  go_wp2_with fail
  go_loopw [6, 7] (fun vw i wr => ∃ (k : Nat) (rs : List (List Int)) (v : Value), i = .int .i64 k ∧ k ≤ len ∧ St w wr g h j 60 0 0 rs v ∧ wr.ownsRow w.heap.size 26 48 vw (usedBy rs) (pcells (laid 0 rs)) ∧ usedBy rs ≤ 5 * k)
    (fun vw i _ => len - (intOf i).toNat)
  case atStart => exact ⟨0, [], v, rfl, Nat.zero_le _, HS3.out, World.ownsRow_nil _ _ _ _, Nat.le_refl _⟩
  case round =>
    obtain ⟨k, rs, vj, rfl, hk, hs, ho, hu⟩ := hrel
    obtain ⟨Aw, cw, rfl⟩ := own_val ho
    have HSR := Lib.hid hs
    have HOW := Lib.hid ho
    clear hs ho HS3
    by_cases hlt : k < len
    · obtain ⟨ad, u, hA, hadb, hu1, hcell⟩ := HR.out.at_ hlt
      obtain ⟨el, hel, rfl⟩ : ∃ el, el ∈ l ∧ u = el.val := by
        have hkl : k < l.length := by have := HLL.out; omega
        rw [List.getElem?_map, List.getElem?_eq_getElem hkl] at hu1
        exact ⟨l[k], List.getElem_mem hkl, by simpa using hu1.symm⟩
      have heok := HOK.out el hel
      obtain ⟨A1, n1, c1, z1⟩ := el
      have hrow : IsRow .u8 w A1 n1 c1 z1 := heok
      have HCE := Lib.hid (show ∀ W, Below w.heap.size w W → W.cell? (ad.add k) = some (.slice A1 n1 c1) from fun W hW => (hW.cell (by rw [block_of_add]; exact hadb)).trans hcell)
      have hcell' := HCE.out wr HSR.out.below
      subst hA
      have HROW := Lib.hid hrow
      clear hel heok hcell hu1 hrow
      by_cases hn0 : n1 = 0
      · have e0 : ((n1 : Int) == 0) = true := by rw [hn0]; rfl
        go_wp2_with fail
        go_roundw
        case rel => exact ⟨k + 1, rs, vj, by go_num, by omega, HSR.out, HOW.out, by omega⟩
        case measure => simp [intOf]; omega
      · have e0 : ((n1 : Int) == 0) = false := by rw [beq_eq_false_iff_ne]; omega
        by_cases hn2 : 200 < n1
        · have e1 : decide (200 < (n1 : Int)) = true := decide_eq_true (by omega)
          go_wp2_with fail
          go_roundw
          case rel => exact ⟨k + 1, rs, vj, by go_num, by omega, HSR.out, HOW.out, by omega⟩
          case measure => simp [intOf]; omega
        · have e1 : decide (200 < (n1 : Int)) = false := decide_eq_false (by omega)
          obtain ⟨ad1, hA1, hlt1, _⟩ := HROW.out.nums.2 (by omega)
          subst hA1
          have hnm := HROW.out.nums
          have hcm : c1 ≤ maxLen := by
            rcases HROW.out with ⟨h, _⟩ | ⟨_, _, _, h, _⟩
            · cases h
            · exact h
          have hcp := HROW.out.cap_
          have hby := isBytes_of_wf HROW.out.wf_
          obtain ⟨b, hb⟩ : ∃ b, z1.take n1 = b := ⟨_, rfl⟩
          rw [hb] at hnm hby
          have hbl := hnm.len
          have hnd : need b ≤ 5 := by unfold need; omega
          have hge := HSR.out.ge
          have hadd := HSR.out.add0 ad1 n1 c1 _ b (hnm.below HSR.out.below) (.inr hlt1) (by omega) hcp hcm hby (by omega) (by omega) (by omega) (by omega)
          have HADD := Lib.hid hadd
          have HNM := Lib.hid hnm
          have HBY := Lib.hid hby
          have HND := Lib.hid hnd
          clear hadd hnm hby hbl HROW hnd hb
          go_wp2_with fail
          refine HADD.out.mono ?_
          rintro e v1 ⟨rfl, vj', hs1, _, hsf⟩
          have HS1 := Lib.hid hs1
          have HO1 := Lib.hid (HSR.out.keeps HOW.out hsf (by decide) (by decide) (by decide) (by decide))
          have hcell1 := HCE.out v1 HS1.out.below
          have HPG := Lib.hid (refPages_any (usedBy rs) ad1 n1 c1 _ b v1 (HNM.out.below HS1.out.below) HS1.out.below.size HBY.out (by omega) (by omega) hcp hcm (by omega))
          clear hs1 hsf HADD HSR HOW hcell'
          go_wp2_with fail
          refine HPG.out.mono ?_
          rintro e v2 ⟨vp, rfl, hop, hb2⟩
          obtain ⟨Ap, cp, rfl⟩ := own_val hop
          have hnd1 : 1 ≤ need b := by have := HNM.out.len; unfold need; omega
          have HOP := Lib.hid (Reads.of_own hop)
          obtain ⟨bp, op, rfl, _, _⟩ := Reads.lit HOP.out (by omega) (by decide)
          have HPC := Lib.hid (hop.1)
          have HO2 := Lib.hid (own_safe (by decide) (by decide) (by decide) (Safe.of_below hb2 none) (.inl rfl) HO1.out)
          have HS2 := Lib.hid (HS1.out.next hb2)
          have hu5 := HND.out
          have hsz2 := HS2.out.below.size
          clear hop hb2 HO1 HS1 HPG
          go_wp2_with (at_builtin; refine wpList_append_own _ rfl _ _ 61 rfl w.heap.size 26 i0 _ 48 48 Try.underlying61 hi hz0 hz1 hz2 (by decide) (by decide) _ (usedBy rs) _ rfl HO2.out ⟨bp, op, none⟩ (need b) cp (pcells (pagesV (usedBy rs) b)) rfl HPC.out ?c1 ?c2 ?c3 ?c4 ?c5 ?_)
          case c1 =>
            obtain ⟨ad', e', _, h'⟩ := HOP.out.2 (by omega)
            injection e' with e'
            subst e'
            exact h'
          case c2 => exact pcells_one_cell _
          case c3 => unfold maxLen; omega
          case c4 => omega
          case c5 => exact hsz2
          intro v' w4 hown hgr _
          have HS4 := Lib.hid (HS2.out.grown HO2.out hgr (Nat.le_refl _) (by decide) (by decide) (by decide) (by decide) (by decide))
          have hown' : w4.ownsRow w.heap.size 26 48 v' (usedBy (rs ++ [b])) (pcells (laid 0 (rs ++ [b]))) := by
            rw [usedBy_snoc, laid_snoc, pcells_append, Nat.zero_add]
            exact hown
          have HO4 := Lib.hid hown'
          clear hown hown' hgr HO2 HS2
          go_wp2_with fail
          go_roundw
          case rel => exact ⟨k + 1, rs ++ [b], vj', by go_num, by omega, HS4.out, HO4.out, by rw [usedBy_snoc]; omega⟩
          case measure => simp [intOf]; omega
    · have hu60 : usedBy rs ≤ 50 := by omega
      clear HR HOK HLL
      go_wp2_with fail
      go_loopw [8] (fun i wr => ∃ k : Nat, i = .int .i64 k ∧ k ≤ 60 ∧ St w wr g h j 60 0 0 rs vj ∧ wr.ownsRow w.heap.size 26 48 (.slice Aw (usedBy rs) cw) (usedBy rs) (pcells (laid 0 rs)))
        (fun i _ => 60 - (intOf i).toNat)
      case atStart => exact ⟨0, rfl, Nat.zero_le _, HSR.out, HOW.out⟩
      case round =>
        obtain ⟨q, rfl, hq, hs, ho⟩ := hrel
        have HSQ := Lib.hid hs
        have HOQ := Lib.hid ho
        clear hs ho HSR HOW
        by_cases hlt : q < 60
        · by_cases hqu : q < usedBy rs
          · obtain ⟨x, hx⟩ : ∃ x, (laid 0 rs).getD q [] = x := ⟨_, rfl⟩
            have hql : q < (laid 0 rs).length := by rw [laid_len]; exact hqu
            have hxl : x.length = 48 := by rw [← hx, List.getD, List.getElem?_eq_getElem hql]; exact laid_48 _ _ _ (List.getElem_mem hql)
            have htl : (padOf 60 0 0 rs).tell q = (x, true) := by rw [padOf_tell, if_pos hqu, hx]
            have HTL := Lib.hid htl
            have HXL := Lib.hid hxl
            have HX := Lib.hid hx
            have HQL := Lib.hid hql
            clear htl hxl hx hql
            go_wp2_with fail
            refine (leaf_any q HSQ.out.pad).mono ?_
            rintro e v1 ⟨rfl, hb1⟩
            rw [HTL.out]
            have HS1 := Lib.hid (HSQ.out.next hb1)
            have HO1 := Lib.hid (own_safe (by decide) (by decide) (by decide) (Safe.of_below hb1 none) (.inl rfl) HOQ.out)
            clear hb1 HSQ HOQ
            dsimp only
            have HXX := Lib.hid (w26_blk v1 x HXL.out)
            have HO2 := Lib.hid (own_safe (by decide) (by decide) (by decide) (Safe.of_below (w26_below v1 x) none) (.inl rfl) HO1.out)
            have HS2 := Lib.hid (HS1.out.next (w26_below v1 x))
            generalize hW : w26 v1 x = v2 at *
            have HW := Lib.hid hW
            clear hW HO1 HS1
            have hcmp : decide ((q : Int) < (usedBy rs : Int)) = true := decide_eq_true (by omega)
            go_wp2_with (first
              | (with_reducible refine step_alloc 26 zArr Try.zero26 rfl rfl ?_)
              | (refine step_put26 (w := v1) x _ _ rfl rfl rfl rfl rfl HXL.out HW.out ?_))
            obtain ⟨bw, cw', hbw, _, hbwl⟩ := World.ownsRow.form HO2.out (by omega)
            injection hbw with hbw1 _ hbw2
            subst hbw1 hbw2
            have hldx : ∀ w', (∃ y : Later v2.heap.size v2, w' = y.w) → w'.rangeAt v1.heap.size 0 (bArr x).toList := by
              rintro w' ⟨y, rfl⟩
              exact (HXX.out.below y.below HXX.out.lt).all
            have hldw : ∀ w', (∃ y : Later v2.heap.size v2, w' = y.w) → w'.rangeAt bw (q * 48) (bArr x).toList := by
              rintro w' ⟨y, rfl⟩
              have := laid_range (own_safe (by decide) (by decide) (by decide) (Safe.of_below y.below none) (.inl rfl) HO2.out) (laid_48 _ _) q HQL.out
              rw [HX.out] at this
              exact this
            have HLX := Lib.hid hldx
            have HLW := Lib.hid hldw
            clear hldx hldw
            refine wp_region_later v2.heap.size (by kernel_rfl) (by kernel_rfl) ?_
            repeat (first
              | (refine quiet_loadG 26 _ v1.heap.size 0 (bArr x) rfl rfl rfl HLX.out _ Try.underlying26 rfl 48 Try.size26 (bArr_size HXL.out) ?_; simp only [Act.put, List.setIfInBounds_toArray, List.set_cons_succ, List.set_cons_zero])
              | (refine quiet_loadG 26 _ bw (q * 48) (bArr x) rfl rfl rfl HLW.out _ Try.underlying26 rfl 48 Try.size26 (bArr_size HXL.out) ?_; simp only [Act.put, List.setIfInBounds_toArray, List.set_cons_succ, List.set_cons_zero])
              | (refine quiet_neq26 x _ _ _ rfl rfl rfl rfl HXL.out ?_; simp only [Act.put, List.setIfInBounds_toArray, List.set_cons_succ, List.set_cons_zero])
              | (go_big_quiet_step (fail)))
            refine wpQuiet_nil ?_
            intro _ hw'
            obtain ⟨X, rfl⟩ := hw'
            have HS3 := Lib.hid (HS2.out.next X.below)
            have HO3 := Lib.hid (own_safe (by decide) (by decide) (by decide) (Safe.of_below X.below none) (.inl rfl) HO2.out)
            clear HS2 HO2
            generalize X.w = v3 at *
            go_wp2_with fail
            go_roundw
            case rel => exact ⟨q + 1, by go_num, by omega, HS3.out, HO3.out⟩
            case measure => simp [intOf]; omega
          · have htl : (padOf 60 0 0 rs).tell q = (zb, false) := by rw [padOf_tell, if_neg hqu]
            have HTL := Lib.hid htl
            clear htl
            go_wp2_with fail
            refine (leaf_any q HSQ.out.pad).mono ?_
            rintro e v1 ⟨rfl, hb1⟩
            rw [HTL.out]
            have HS1 := Lib.hid (HSQ.out.next hb1)
            have HO1 := Lib.hid (own_safe (by decide) (by decide) (by decide) (Safe.of_below hb1 none) (.inl rfl) HOQ.out)
            clear hb1 HSQ HOQ
            dsimp only
            have HO2 := Lib.hid (own_safe (by decide) (by decide) (by decide) (Safe.of_below (w26_below v1 zb) none) (.inl rfl) HO1.out)
            have HS2 := Lib.hid (HS1.out.next (w26_below v1 zb))
            generalize hW : w26 v1 zb = v2 at *
            have HW := Lib.hid hW
            clear hW HO1 HS1
            have hcmp : decide ((q : Int) < (usedBy rs : Int)) = false := decide_eq_false (by omega)
            go_wp2_with (first
              | (with_reducible refine step_alloc 26 zArr Try.zero26 rfl rfl ?_)
              | (refine step_put26 (w := v1) zb _ _ rfl rfl rfl rfl rfl zb_len HW.out ?_))
            refine wp_region_later v2.heap.size (by kernel_rfl) (by kernel_rfl) ?_
            repeat (go_big_quiet_step (fail))
            refine wpQuiet_nil ?_
            intro _ hw'
            obtain ⟨X, rfl⟩ := hw'
            have HS3 := Lib.hid (HS2.out.next X.below)
            have HO3 := Lib.hid (own_safe (by decide) (by decide) (by decide) (Safe.of_below X.below none) (.inl rfl) HO2.out)
            clear HS2 HO2
            generalize X.w = v3 at *
            go_wp2_with fail
            go_roundw
            case rel => exact ⟨q + 1, by go_num, by omega, HS3.out, HO3.out⟩
            case measure => simp [intOf]; omega
        · have hre := reopen_plain (N := 60) (F := 0) (rs := rs) HSQ.out.fit (by omega) (fun b hb => (HSQ.out.big b hb).1)
          have hopen := St.open_ (w0 := w) (N := 60) (F := 0) (rs := rs) HSQ.out.pad rfl rfl rfl (by omega) hre.1 hre.2 rfl HSQ.out.ge.1 HSQ.out.ge.2.1 HSQ.out.below HSQ.out.fit HSQ.out.big
          have HOP := Lib.hid hopen
          clear hre hopen HSQ HOQ
          go_wp2_with fail
          refine HOP.out.mono ?_
          rintro e v1 ⟨j', v', rfl, hs1, _⟩
          have HS1 := Lib.hid hs1
          have HWT := Lib.hid (wet_any hs1.pad)
          clear hs1 HOP
          go_wp2_with fail
          refine HWT.out.mono ?_
          rintro e v2 ⟨rfl, hb2⟩
          rw [padOf_wet, show ((0 : Nat) : Int) = 0 from rfl]
          have HB2 := Lib.hid (HS1.out.next hb2).below
          clear hb2
          go_wp2_with fail
          go_ret
          exact ⟨rfl, HB2.out⟩

set_option maxRecDepth 100000 in
set_option maxHeartbeats 1000000 in
theorem journalLeaves_walk (A : Option Addr) (len cap : Nat) (l : List Sl) (w : World) (w0 : ListRow w A len cap l) : Calls Try.prog 11 #[.slice A len cap] w fun e w' => e = .returned (.bool true) ∧ Below w.heap.size w w' := by
  by_cases hlen : len ≤ 10
  · exact leaves_core A len cap l w w0.1 w0.2.1 hlen
  · have hm := w0.2.2
    have e10 : decide (10 < (len : Int)) = true := decide_eq_true (by omega)
    clear w0
    go_enter Try.func11, Try.ntmps11
    go_wp2_with fail
    refine (new_any 60 (by omega) (by omega) _).mono ?_
    rintro e w1 ⟨g, h, rfl, hp, h1, h2, hb⟩
    have HO := Lib.hid (St.new (w0 := w) hp h1 h2 hb)
    clear hp h1 h2 hb
    go_wp2_with fail
    refine HO.out.mono ?_
    rintro e w2 ⟨j, v, rfl, hs⟩
    have HS := Lib.hid (show St w w2 g h j 60 0 0 [] v from hs)
    clear hs HO
    go_wp2_with fail
    refine (awake24 _).mono ?_
    rintro e w3 ⟨rfl, hb3⟩
    have HS3 := Lib.hid (HS.out.next hb3)
    clear hb3 HS
    go_wp2_with fail
    refine (awake24 _).mono ?_
    rintro e w4 ⟨rfl, hb4⟩
    have HB4 := Lib.hid (HS3.out.next hb4).below
    clear hb4
    go_wp2_with fail
    go_ret
    exact ⟨rfl, HB4.out⟩
end Go.Proofs.Ytdjkkpefljapcaa
