/- The contracts of cycle.spans with find's closure, of cycle.find, Of and All. -/
import Derived.Test.YtbkbeblogfakjaaCycFind
namespace Go.Proofs.Ytbkbeblogfakjaa
open Go.RowKit
set_option linter.unusedVariables false
set_option linter.unusedSimpArgs false

theorem Cal.findL_err {c day f v er : Int} (m : Nat) (h : Cal.lastR f c = (v, er)) (h2 : er ≠ 0) : Cal.findL c day (m + 1) f = ([], false) := by rw [Cal.findL, h, if_neg h2]
theorem Cal.findL_more {c day f v : Int} (m : Nat) (h : Cal.lastR f c = (v, 0)) (h2 : v < day) (h3 : m ≠ 0) : Cal.findL c day (m + 1) f = ((f, v) :: (Cal.findL c day m (v + 1)).1, (Cal.findL c day m (v + 1)).2) := by rw [Cal.findL, h, if_pos rfl, if_pos ⟨h2, h3⟩]
theorem Cal.findL_end {c day f v : Int} (m : Nat) (h : Cal.lastR f c = (v, 0)) (h2 : ¬ (v < day ∧ m ≠ 0)) : Cal.findL c day (m + 1) f = ([(f, v)], decide (f ≤ day ∧ day ≤ v)) := by rw [Cal.findL, h, if_pos rfl, if_neg h2]

set_option maxRecDepth 100000 in
set_option maxHeartbeats 2000000 in
theorem spansFind_any (start c day : Int) (gF gD gI B : Nat) (w : World) (hF : Blk w gF 45 #[.slice none 0 0]) (hD : Blk w gD 3 #[.int .i64 day]) (hI : Blk w gI 4 #[.bool false])
    (n1 : gF ≠ gD) (n2 : gF ≠ gI) (n3 : gD ≠ gI) (b1 : B ≤ gF) (b2 : B ≤ gI) :
    Calls Try.prog 39 #[.int .i64 start, .int .i64 c, .func (.func 44) #[] #[.pointer (some ⟨gF, 0, none⟩), .pointer (some ⟨gD, 0, none⟩), .pointer (some ⟨gI, 0, none⟩)]] w fun e w' => (∃ er : Int, e = .returned (.int .i64 er)) ∧ (∃ v, Blk w' gF 45 #[v] ∧ w'.ownsRow (w.heap.size + 1) 39 2 v (Cal.findL c day 300 start).1.length (spanCells (Cal.findL c day 300 start).1)) ∧ Blk w' gI 4 #[.bool (Cal.findL c day 300 start).2] ∧ Below B w w' := by
  have hg1 := hF.lt
  have hg2 := hD.lt
  have hg3 := hI.lt
  generalize hR : Cal.findL c day 300 start = R
  have HR := Lib.hid hR
  clear hR
  go_enter Try.func39, Try.ntmps39
  go_wp2_with fail
  refine wp_scope_one 0 (fun a' wr => ∃ (k f l : Int) (P : List (Int × Int)) (v : Value) (u3 u4 u5 u6 u9 u10 u11 u12 u13 u14 u15 u16 u17 u18 u19 u20 u21 u22 u23 u24 u25 u26 u27 u28 u29 u30 u31 u32 u33 : Value), 1 ≤ k ∧ k ≤ 300 ∧ (P.length : Int) = k - 1 ∧ R = (P ++ (Cal.findL c day (301 - k).toNat f).1, (Cal.findL c day (301 - k).toNat f).2) ∧ Blk wr gF 45 #[v] ∧ Blk wr gD 3 #[.int .i64 day] ∧ Blk wr gI 4 #[.bool false] ∧ Blk wr w.heap.size 39 (scells f l) ∧ wr.ownsRow (w.heap.size + 1) 39 2 v P.length (spanCells P) ∧ Below B w wr ∧ a' = { tmps := #[.int .i64 start, .int .i64 c, .func (.func 44) #[] #[.pointer (some ⟨gF, 0, none⟩), .pointer (some ⟨gD, 0, none⟩), .pointer (some ⟨gI, 0, none⟩)], u3, u4, u5, u6, .int .i64 k, .pointer (some ⟨w.heap.size, 0, none⟩), u9, u10, u11, u12, u13, u14, u15, u16, u17, u18, u19, u20, u21, u22, u23, u24, u25, u26, u27, u28, u29, u30, u31, u32, u33], defers := [] }) (fun a' _ => (300 - intOf (a'.tmps.getD 7 undef)).toNat) rfl ?_ ?_
  · rintro a' wr ⟨k, f, l, P, v, u3, u4, u5, u6, u9, u10, u11, u12, u13, u14, u15, u16, u17, u18, u19, u20, u21, u22, u23, u24, u25, u26, u27, u28, u29, u30, u31, u32, u33, k1, k2, hP, hfl, kF, kD, kI, kT, hown, hbel, rfl⟩
    have hm : (301 - k).toNat = (300 - k).toNat + 1 := by omega
    rw [hm] at hfl
    have hsz := kT.lt
    have hsb := hbel.size
    have c0 := scell0 kT
    have HP := Lib.hid hP
    have HF := Lib.hid kF
    have HD := Lib.hid kD
    have HI := Lib.hid kI
    have HT := Lib.hid kT
    have HO := Lib.hid hown
    have HB := Lib.hid hbel
    clear kF kD kI kT hown hbel hF hD hI hm HR hP
    generalize hL : Cal.lastR f c = L
    obtain ⟨v0, er⟩ := L
    have HL := Lib.hid hL
    by_cases he : er = 0
    · subst he
      obtain ⟨y1, y2, y3, y4, y5, y6⟩ := Cal.lastR_inv hL
      obtain ⟨y7, y8⟩ := Cal.lastV_ge (f := f) (cd := c) y1 y2 y3 y4
      rw [← y5] at y7
      clear y5 y8
      by_cases hk : v0 < day ∧ k < 300
      · obtain ⟨hk1, hk2⟩ := hk
        rw [Cal.findL_more _ hL hk1 (by omega), show (300 - k).toNat = (301 - (k + 1)).toNat by omega] at hfl
        have HFL := Lib.hid hfl
        have dk : (decide (v0 < day) && decide (k < 300)) = true := by simp [hk1, hk2]
        have di : (decide (f ≤ day) && decide (day ≤ v0)) = false := by simp; intro; omega
        clear hfl hL
        go_wp2_with fail
        refine (last_any _ _ _).mono ?_
        rintro e v1 ⟨rfl, hb1⟩
        rw [HL.out]
        have ht1 := HT.out.below hb1 HT.out.lt
        have c0 := scell0 ht1
        have c1 := scell1 ht1
        have z1 := ht1.frozen 1
        have ht2 : Blk (v1.setCell ⟨w.heap.size, 1, none⟩ (.int .i64 v0)) w.heap.size 39 (scells f v0) := sset1 ht1
        have hF2 := (HF.out.below hb1 HF.out.lt).far (p := ⟨w.heap.size, 1, none⟩) (by simp; omega) (.int .i64 v0)
        have hD2 := (HD.out.below hb1 HD.out.lt).far (p := ⟨w.heap.size, 1, none⟩) (by simp; omega) (.int .i64 v0)
        have hI2 := (HI.out.below hb1 HI.out.lt).far (p := ⟨w.heap.size, 1, none⟩) (by simp; omega) (.int .i64 v0)
        have hO2 := own_set (own_below HO.out hb1) (p := ⟨w.heap.size, 1, none⟩) (by simp) (.int .i64 v0)
        have hbe2 := (HB.out.trans (hb1.mono (by omega))).setCell (p := ⟨w.heap.size, 1, none⟩) (by simp; omega) (.int .i64 v0)
        have hz2 := ht2.lt
        have hs2 := hbe2.size
        go_wp2_with fail
        refine (findKeep_any k f v0 day false _ _ _ gF gD gI (w.heap.size + 1) _ P v _ rfl rfl rfl hF2 hD2 hI2 n1 n2 n3 (by omega) (by omega) (by omega) (by omega) hO2 (by have := HP.out; omega)).mono ?_
        rintro e v2 ⟨rfl, v', hF3, hI3, hO3, hkeep, hb2⟩
        rw [dk]
        rw [di] at hI3
        have ht3 := hkeep _ _ _ (by omega) (by omega) (by omega) ht2
        have hD3 := hkeep _ _ _ (fun h => n1 h.symm) n3 (by omega) hD2
        have c0 := scell0 ht3
        have c1 := scell1 ht3
        have z0 := ht3.frozen 0
        have hbe3 := hbe2.trans (hb2 B b1 b2)
        clear hkeep hb2
        have hs3 := hbe3.size
        go_wp2_with fail
        go_step3
        refine ⟨rfl, ⟨k + 1, v0 + 1, v0, P ++ [(f, v0)], v', ?_⟩, ?_⟩
        · (repeat apply Exists.intro)
          refine ⟨by omega, by omega, by have := HP.out; simp; omega, by rw [HFL.out]; simp, hF3.far (by simp; omega) _, hD3.far (by simp; omega) _, hI3.far (by simp; omega) _, sset0 ht3, ?_, hbe3.setCell (by simp; omega) _, rfl⟩
          rw [List.length_append]
          exact own_set hO3 (by simp) _
        · simp [intOf]
          omega
      · rw [Cal.findL_end _ hL (by omega)] at hfl
        have HFL := Lib.hid hfl
        have dk : (decide (v0 < day) && decide (k < 300)) = false := by simp; omega
        have di : (decide (f ≤ day) && decide (day ≤ v0)) = decide (f ≤ day ∧ day ≤ v0) := by simp
        clear hfl hL
        go_wp2_with fail
        refine (last_any _ _ _).mono ?_
        rintro e v1 ⟨rfl, hb1⟩
        rw [HL.out]
        have ht1 := HT.out.below hb1 HT.out.lt
        have c0 := scell0 ht1
        have c1 := scell1 ht1
        have z1 := ht1.frozen 1
        have ht2 : Blk (v1.setCell ⟨w.heap.size, 1, none⟩ (.int .i64 v0)) w.heap.size 39 (scells f v0) := sset1 ht1
        have hF2 := (HF.out.below hb1 HF.out.lt).far (p := ⟨w.heap.size, 1, none⟩) (by simp; omega) (.int .i64 v0)
        have hD2 := (HD.out.below hb1 HD.out.lt).far (p := ⟨w.heap.size, 1, none⟩) (by simp; omega) (.int .i64 v0)
        have hI2 := (HI.out.below hb1 HI.out.lt).far (p := ⟨w.heap.size, 1, none⟩) (by simp; omega) (.int .i64 v0)
        have hO2 := own_set (own_below HO.out hb1) (p := ⟨w.heap.size, 1, none⟩) (by simp) (.int .i64 v0)
        have hbe2 := (HB.out.trans (hb1.mono (by omega))).setCell (p := ⟨w.heap.size, 1, none⟩) (by simp; omega) (.int .i64 v0)
        have hz2 := ht2.lt
        have hs2 := hbe2.size
        go_wp2_with fail
        refine (findKeep_any k f v0 day false _ _ _ gF gD gI (w.heap.size + 1) _ P v _ rfl rfl rfl hF2 hD2 hI2 n1 n2 n3 (by omega) (by omega) (by omega) (by omega) hO2 (by have := HP.out; omega)).mono ?_
        rintro e v2 ⟨rfl, v', hF3, hI3, hO3, hkeep, hb2⟩
        rw [dk]
        rw [di] at hI3
        have hbe3 := hbe2.trans (hb2 B b1 b2)
        clear hkeep hb2
        go_wp2_with fail
        simp only [Exit.jump]
        go_ret
        rw [HFL.out]
        refine ⟨⟨_, rfl⟩, ⟨v', hF3, ?_⟩, hI3, hbe3⟩
        rw [List.length_append]
        exact hO3
    · have hx : (er != 0) = true := by simpa using he
      rw [Cal.findL_err _ hL he, List.append_nil] at hfl
      have HFL := Lib.hid hfl
      clear hfl hL
      go_wp2_with fail
      refine (last_any _ _ _).mono ?_
      rintro e v1 ⟨rfl, hb1⟩
      rw [HL.out]
      have ht1 := HT.out.below hb1 HT.out.lt
      have c0 := scell0 ht1
      have c1 := scell1 ht1
      have z1 := ht1.frozen 1
      go_wp2_with fail
      simp only [Exit.jump]
      go_ret
      rw [HFL.out]
      exact ⟨⟨_, rfl⟩, ⟨v, (HF.out.below hb1 HF.out.lt).far (by simp; omega) _, own_set (own_below HO.out hb1) (by simp) _⟩, (HI.out.below hb1 HI.out.lt).far (by simp; omega) _, (HB.out.trans (hb1.mono (by omega))).setCell (by simp; omega) _⟩
  · intro hpass
    go_wp2_with fail
    go_step3
    rename_i hk
    refine hk _ _ (hpass _ _ ⟨1, start, 0, [], .slice none 0 0, ?_⟩)
    (repeat apply Exists.intro)
    exact ⟨by omega, by omega, by simp, HR.out.symm, hF.alloc _, hD.alloc _, hI.alloc _, Blk.new w _ _, World.ownsRow_nil _ _ _ _, (Below.refl B w).alloc (by omega) _, rfl⟩
end Go.Proofs.Ytbkbeblogfakjaa
