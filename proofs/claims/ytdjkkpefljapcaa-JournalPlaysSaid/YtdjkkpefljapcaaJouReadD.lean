/- The contract of journal.Read where a leaf is read. -/
import Derived.Test.YtdjkkpefljapcaaJouReadC
namespace Go.Proofs.Ytdjkkpefljapcaa
open Go.RowKit
set_option linter.unusedVariables false
set_option linter.unusedSimpArgs false

def ReadGood (x : List Int) (w : World) (e : Ending) (w' : World) : Prop := ∃ v, e = .returned (.tuple #[.bool (decide (x.getD 4 0 % 2 = 1)), .bool (decide (2 ≤ x.getD 4 0)), v, .int .i64 0]) ∧ OwnB w' w.heap.size v (partOf x) ∧ Below w.heap.size w w'
theorem own_base {w : World} {base base' : Nat} {v : Value} {bs : List Int} (h : OwnB w base v bs) (hb : base' ≤ base) : OwnB w base' v bs := by
  refine ⟨h.1, ?_⟩
  rcases h.2 with hn | ⟨g, cap, cur, hv, hg, rest⟩
  · exact .inl hn
  · exact .inr ⟨g, cap, cur, hv, by omega, rest⟩
theorem sub_src {w : World} {g : Nat} {t : TypeId} {x : List Int} (h : Blk w g t (bArr x)) (o m : Nat) (hm : o + m ≤ x.length) : Nums .u8 w (g + 1) (some ⟨g, o, none⟩) m ((x.drop o).take m) := by
  refine ⟨by simp; omega, fun _ => ⟨_, rfl, by simp, fun j u hu => ?_⟩⟩
  have hj : j < m := by have := (List.getElem?_eq_some_iff.1 hu).1; simp at this; omega
  rw [Addr.add_lit, h.cell]
  unfold bArr
  rw [List.getElem?_toArray, ← hu]
  simp only [List.getElem?_map]
  rw [List.getElem?_take_of_lt hj, List.getElem?_drop]

theorem slice26_lh (g k : Nat) (hk : k ≤ 41) (w : World) : (Instr.sliceAt 26 (.pointer (some ⟨g, 0, none⟩)) (some (.int .i64 6)) (some (.int .i64 (6 + (k : Int)))) none).run Try.prog w = .ok (.slice (some ⟨g, 6, none⟩) k 42) w := by
  have hl : Try.prog.arrayLen 26 = 48 := by kernel_rfl
  have hs : ∀ w, (sizeOf (Try.prog.elem 26)).run Try.prog w = .ok 1 w := fun w => by kernel_rfl
  rw [run_sliceAt_array_lh (P := Try.prog) w 26 ⟨g, 0, none⟩ (by kernel_rfl) .i64 .i64 6 (6 + (k : Int)) (by omega) (by omega) (by rw [hl]; omega), hs]
  simp only [Result.andThen, hl, slicedAt, sliced]
  rw [show ((6 : Int) + (k : Int)).toNat = 6 + k from by omega]
  simp [Addr.add]

set_option maxRecDepth 100000 in
set_option maxHeartbeats 4000000 in
theorem read_good (n : Int) (x : List Int) (hx : x.length = 48) (hb : isBytes x) (w : World) (h : headOk n x) (hpad : padOk x) (hsum : sumOk n x) :
    Calls Try.prog 32 #[.int .i64 n, .agg (bArr x)] w fun e w' => ReadGood x w e w' := by
  have hB := Blk.new w 26 (bArr x)
  have hL := (Below.refl w.heap.size w).alloc (Nat.le_refl _) (.cells (bArr x) 26)
  have hat : ∀ i, i < 48 → (w.alloc (.cells (bArr x) 26)).cell? ⟨w.heap.size, i, none⟩ = some (.int .u8 (x.getD i 0)) := fun i hi => by rw [hB.cell, bArr_get _ _ (by omega)]
  have c4 := hat 4 (by omega)
  have c5 := hat 5 (by omega)
  have c47 := hat 47 (by omega)
  obtain ⟨b40, b41⟩ := hb.getD 4
  obtain ⟨g0, g1, g2, g3, g4, g5, g6⟩ := h
  rw [g2] at c47
  obtain ⟨k, hk⟩ : ∃ k : Nat, x.getD 5 0 = k := ⟨(x.getD 5 0).toNat, by omega⟩
  rw [hk] at c5 g4 g5 g6
  have hp4' : ∀ i : Nat, 6 + k ≤ i → i < 47 → x.getD i 0 = 0 := fun i h => hpad i (by rw [hk, Int.toNat_natCast]; exact h)
  have HL := Lib.hid hL
  have HAT := Lib.hid hat
  have HP4 := Lib.hid hp4'
  have HB0 := Lib.hid hB
  have HBY := Lib.hid hb
  have HSUM := Lib.hid hsum
  have HK := Lib.hid hk
  clear hat hB hL hb hp4' hpad g2 hk hsum
  generalize hff : x.getD 4 0 = f at *
  have HFF := Lib.hid hff
  clear hff
  have HX := Lib.hid hx
  clear hx
  have d1 : decide (n < 0) = false := decide_eq_false (by omega)
  have d2 : decide (20000 < n) = false := decide_eq_false (by omega)
  have d3 : decide (3 < f) = false := decide_eq_false (by omega)
  have d4 : decide ((k : Int) < 1) = false := decide_eq_false (by omega)
  have d5 : decide (41 < (k : Int)) = false := decide_eq_false (by omega)
  have d6 : ((k : Int) < 41 ∧ decide (f < 2) = false ∧ decide ((k : Int) < 41) = true) ∨ (k = 41 ∧ decide ((k : Int) < 41) = false) := by
    by_cases hk : (k : Int) < 41
    · exact .inl ⟨hk, decide_eq_false (by omega), decide_eq_true hk⟩
    · exact .inr ⟨by omega, decide_eq_false hk⟩
  have D6 := Lib.hid d6
  clear d6
  go_enter Try.func32, Try.ntmps32
  go_wp2_with fail
  refine wp_scope_two' (fun _ _ => False)
    (fun a' wr => (∃ q, wr = (w.alloc (.cells (bArr x) 26)).drewN q) ∧ ∃ (at_ : Nat), 6 + k ≤ at_ ∧ at_ ≤ 47 ∧ ∃ (u1 u2 u4 u5 u6 u7 u10 u12 u13 u14 u15 u16 u17 u18 u19 u20 u21 u22 u23 u24 u25 u26 u27 u28 u29 u30 u31 u32 u33 u34 u35 u36 u37 u38 u39 u40 u41 u42 u43 u44 u45 u46 u47 u48 u49 u50 u51 u52 u53 u54 u55 u56 u57 u58 u59 u60 u61 u62 u63 u64 u65 u66 u67 u68 u69 u70 u71 u72 u73 u74 u75 : Value), a' = { tmps := #[.int .i64 n, u1, u2, .pointer (some ⟨w.heap.size, 0, none⟩), u4, u5, u6, u7, .int .u8 f, .int .i64 k, u10, .int .i64 at_, u12, u13, u14, u15, u16, u17, u18, u19, u20, u21, u22, u23, u24, u25, u26, u27, u28, u29, u30, u31, u32, u33, u34, u35, u36, u37, u38, u39, u40, u41, u42, u43, u44, u45, u46, u47, u48, u49, u50, u51, u52, u53, u54, u55, u56, u57, u58, u59, u60, u61, u62, u63, u64, u65, u66, u67, u68, u69, u70, u71, u72, u73, u74, u75], defers := [] }) (fun _ _ => 0) (fun a' _ => 1 + (47 - (intOf (a'.tmps.getD 11 undef)).toNat)) rfl rfl ?_ ?_ ?_
  · rintro a' wr h
    exact h.elim
  · rintro a' wr ⟨⟨q, hq⟩, at_, ha1, ha2, u1, u2, u4, u5, u6, u7, u10, u12, u13, u14, u15, u16, u17, u18, u19, u20, u21, u22, u23, u24, u25, u26, u27, u28, u29, u30, u31, u32, u33, u34, u35, u36, u37, u38, u39, u40, u41, u42, u43, u44, u45, u46, u47, u48, u49, u50, u51, u52, u53, u54, u55, u56, u57, u58, u59, u60, u61, u62, u63, u64, u65, u66, u67, u68, u69, u70, u71, u72, u73, u74, u75, rfl⟩
    have HQ := Lib.hid hq
    have heq : at_ < 47 → wr.cell? ⟨w.heap.size, at_, none⟩ = some (.int .u8 0) := fun h => by
      rw [hq]
      have := HAT.out at_ (by omega)
      rw [HP4.out at_ ha1 h] at this
      exact this
    have HEQ := Lib.hid heq
    have hbl : Blk wr w.heap.size 26 (bArr x) := by rw [hq]; exact HB0.out.drewN q
    have hbe : Below w.heap.size w wr := by rw [hq]; exact HL.out.trans ((Quiet.drewN _ _).below _)
    have HBL := Lib.hid hbl
    have HBE := Lib.hid hbe
    clear hq c4 c5 c47 HL D6 heq hbl hbe d1 d2 d3 d4 d5
    by_cases hlt : at_ < 47
    · have cc := HEQ.out hlt
      go_wp2_with fail
      go_step3
      refine ⟨⟨⟨q, HQ.out⟩, at_ + 1, by omega, by omega, ?_⟩, ?_⟩
      · (repeat apply Exists.intro)
        rfl
      · simp [intOf]
        omega
    · have hpe : at_ = 47 := by omega
      subst hpe
      clear hlt ha1 ha2
      have hws : w.heap.size < wr.heap.size := HBL.out.lt
      have hld : ∀ w', (∃ y : Later wr.heap.size wr, w' = y.w) → w'.rangeAt w.heap.size 0 (bArr x).toList := by
        rintro w' ⟨y, rfl⟩
        exact (HBL.out.below y.below HBL.out.lt).all
      have hld4 : ∀ w', (∃ y : Later wr.heap.size wr, w' = y.w) → w'.rangeAt w.heap.size 0 (bArr (x.take 4)).toList := by
        rintro w' ⟨y, rfl⟩
        refine (HBL.out.below y.below HBL.out.lt).range 0 _ (fun j v hj => ?_)
        unfold bArr at hj ⊢
        rw [Nat.zero_add, List.getElem?_toArray]
        have hj4 : j < 4 := by have := (List.getElem?_eq_some_iff.1 hj).1; simp at this; omega
        simpa [List.getElem?_take_of_lt hj4] using hj
      have HLD := Lib.hid hld
      have HLD4 := Lib.hid hld4
      have hne : decide (hi4 (sumV n (midOf x)) = x.take 4) = true := decide_eq_true (Eq.symm HSUM.out)
      have HNE := Lib.hid hne
      clear hld hld4 hne
      go_wp2_with fail
      refine wp_region_later wr.heap.size (by kernel_rfl) (by kernel_rfl) ?_
      repeat (first
        | (refine quiet_load 26 _ w.heap.size 0 (bArr x) rfl rfl rfl HLD.out _ Try.underlying26 rfl 48 Try.size26 (bArr_size HX.out) ?_; simp only [Act.put, List.setIfInBounds_toArray, List.set_cons_succ, List.set_cons_zero])
        | (refine quiet_load 82 _ w.heap.size 0 (bArr (x.take 4)) rfl rfl rfl HLD4.out _ Try.underlying82 rfl 4 Try.size82 (by simp [bArr, HX.out]) ?_; simp only [Act.put, List.setIfInBounds_toArray, List.set_cons_succ, List.set_cons_zero])
        | (refine quiet_arrayAt _ w.heap.size 48 rfl rfl rfl ?_; simp only [Act.put, List.setIfInBounds_toArray, List.set_cons_succ, List.set_cons_zero])
        | (refine quiet_neq82 (hi4 (sumV n (midOf x))) (x.take 4) _ _ _ rfl rfl rfl rfl rfl (by simp [HX.out]) true HNE.out ?_)
        | (go_big_quiet_step (first | (go_at_call 54; exact later_below (Nat.le_refl _) (jsum_any n x g0 g1 HX.out HBY.out _)))))
      refine wpQuiet_nil ?_
      intro _ hw'
      obtain ⟨X, rfl⟩ := hw'
      have hbX := HBE.out.trans (X.below.mono (by omega))
      have HBX := Lib.hid hbX
      clear hbX
      have HBL2 := Lib.hid (HBL.out.below X.below HBL.out.lt)
      have hsz : w.heap.size < X.w.heap.size := HBL2.out.lt
      generalize X.w = wX at *
      have hs : Nums .u8 wX (w.heap.size + 1) (some ⟨w.heap.size, 6, none⟩) k (partOf x) := by
        have := sub_src HBL2.out 6 k (by rw [HX.out]; omega)
        unfold partOf
        rw [HK.out, Int.toNat_natCast]
        exact this
      have HSS := Lib.hid hs
      clear hs HNE HLD HLD4 HSUM HBY HAT HP4 HB0
      have hf : f = 0 ∨ f = 1 ∨ f = 2 ∨ f = 3 := by omega
      have HF := Lib.hid HFF.out
      rcases hf with rfl | rfl | rfl | rfl
      all_goals
        have hsl := slice26_lh w.heap.size k (by omega)
        go_wp2_with fail
        refine (clone_any ⟨w.heap.size, 6, none⟩ k 42 (w.heap.size + 1) (partOf x) _ HSS.out (by omega) (by omega) (by omega)).mono ?_
        rintro e v4 ⟨v, rfl, how, hb4⟩
        have HOW := Lib.hid how
        have HB4 := Lib.hid (HBX.out.trans (hb4.mono (by omega)))
        clear how hb4
        go_wp2_with fail
        simp only [two]
        refine bodyPost_ret (v := .tuple #[.bool _, .bool _, v, .int .i64 0]) (by simp [results, Try.results32, go_sem]; exact ⟨rfl, rfl⟩) rfl ⟨v, ?_, own_base HOW.out (by omega), HB4.out⟩
        rw [HF.out]
        rfl
  · intro hp
    have HP := Lib.hid hp
    clear hp
    go_wp2_with fail
    go_quiet (fail)
    rcases D6.out with ⟨k1, d6, d7⟩ | ⟨rfl, d6⟩
    · go_wp2_with fail
      go_step3
      rename_i hk
      refine hk _ _ (HP.out _ _ ⟨⟨nq, rfl⟩, 6 + k, by omega, by omega, ?_⟩)
      (repeat apply Exists.intro)
      rfl
    · go_wp2_with fail
      go_step3
      rename_i hk
      refine hk _ _ (HP.out _ _ ⟨⟨nq, rfl⟩, 6 + 41, by omega, by omega, ?_⟩)
      (repeat apply Exists.intro)
      rfl
end Go.Proofs.Ytdjkkpefljapcaa
