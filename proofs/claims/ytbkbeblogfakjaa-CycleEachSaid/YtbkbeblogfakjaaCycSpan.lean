/- The contracts of cycle.spans with Span's closure, of cycle.Span and of the document's Span. -/
import Derived.Test.YtbkbeblogfakjaaCycLast
import Derived.StillTailTactics
namespace Go.Proofs.Ytbkbeblogfakjaa
open Go.RowKit
set_option linter.unusedVariables false
set_option linter.unusedSimpArgs false

/-- A span's cells. -/
def scells (f l : Int) : Array Value := #[.int .i64 f, .int .i64 l]
theorem scell0 {wr : World} {g : Nat} {t : TypeId} {f l : Int} (h : Blk wr g t (scells f l)) : wr.cell? ⟨g, 0, none⟩ = some (.int .i64 f) := by rw [h.cell]; rfl
theorem scell1 {wr : World} {g : Nat} {t : TypeId} {f l : Int} (h : Blk wr g t (scells f l)) : wr.cell? ⟨g, 1, none⟩ = some (.int .i64 l) := by rw [h.cell]; rfl
theorem sset0 {wr : World} {g : Nat} {t : TypeId} {f l f' : Int} (h : Blk wr g t (scells f l)) : Blk (wr.setCell ⟨g, 0, none⟩ (.int .i64 f')) g t (scells f' l) := h.set_ 0 _
theorem sset1 {wr : World} {g : Nat} {t : TypeId} {f l l' : Int} (h : Blk wr g t (scells f l)) : Blk (wr.setCell ⟨g, 1, none⟩ (.int .i64 l')) g t (scells f l') := h.set_ 1 _
theorem ocell {wr : World} {g : Nat} {t : TypeId} {v : Value} (h : Blk wr g t #[v]) : wr.cell? ⟨g, 0, none⟩ = some v := by rw [h.cell]; rfl

set_option maxRecDepth 100000 in
set_option maxHeartbeats 1000000 in
theorem spanKeep_any (k f l o0 o1 n : Int) (go gn B : Nat) (w : World) (ho : Blk w go 39 (scells o0 o1)) (hn : Blk w gn 3 #[.int .i64 n]) (hne : go ≠ gn) (hB : B ≤ go) (hsz : B ≤ w.heap.size) :
    Calls Try.prog 40 #[.int .i64 k, .agg #[.int .i64 f, .int .i64 l], .pointer (some ⟨go, 0, none⟩), .pointer (some ⟨gn, 0, none⟩)] w fun e w' => e = .returned (.bool (decide (k < n))) ∧ Blk w' go 39 (scells f l) ∧ (∀ g t cs, g ≠ go → Blk w g t cs → Blk w' g t cs) ∧ Below B w w' := by
  have a1 := scell0 ho
  have a2 := scell1 ho
  have a3 := ocell hn
  have hlt1 := ho.lt
  have hlt2 := hn.lt
  have z1 := ho.frozen 0
  have z2 := ho.frozen 1
  go_enter Try.func40, Try.ntmps40
  go_wp2_with fail
  go_ret
  exact ⟨rfl, (sset1 (sset0 ho)).alloc _, fun g t cs h hb => ((hb.far h _).far h _).alloc _, (((Below.refl B w).setCell hB _).setCell hB _).alloc (by simpa using hsz) _⟩

set_option maxRecDepth 100000 in
set_option maxHeartbeats 1000000 in
theorem spansSpan_any (start cd n o0 o1 : Int) (go gn B : Nat) (w : World) (hn1 : 1 ≤ n) (hn2 : n ≤ 300) (ho : Blk w go 39 (scells o0 o1)) (hn : Blk w gn 3 #[.int .i64 n]) (hne : go ≠ gn) (hB : B ≤ go) :
    Calls Try.prog 39 #[.int .i64 start, .int .i64 cd, .func (.func 40) #[] #[.pointer (some ⟨go, 0, none⟩), .pointer (some ⟨gn, 0, none⟩)]] w fun e w' => e = .returned (.int .i64 (Cal.spanN cd (n - 1).toNat start).2) ∧ ((Cal.spanN cd (n - 1).toNat start).2 = 0 → Blk w' go 39 (scells (Cal.spanN cd (n - 1).toNat start).1.1 (Cal.spanN cd (n - 1).toNat start).1.2)) ∧ Below B w w' := by
  have hg1 := ho.lt
  have hg2 := hn.lt
  go_enter Try.func39, Try.ntmps39
  go_wp2_with fail
  refine wp_scope_one 0 (fun a' wr => ∃ (k f l o0 o1 : Int) (u3 u4 u5 u6 u9 u10 u11 u12 u13 u14 u15 u16 u17 u18 u19 u20 u21 u22 u23 u24 u25 u26 u27 u28 u29 u30 u31 u32 u33 : Value), 1 ≤ k ∧ k ≤ n ∧ Cal.spanN cd (n - k).toNat f = Cal.spanN cd (n - 1).toNat start ∧ Blk wr go 39 (scells o0 o1) ∧ Blk wr gn 3 #[.int .i64 n] ∧ Blk wr w.heap.size 39 (scells f l) ∧ Below B w wr ∧ a' = { tmps := #[.int .i64 start, .int .i64 cd, .func (.func 40) #[] #[.pointer (some ⟨go, 0, none⟩), .pointer (some ⟨gn, 0, none⟩)], u3, u4, u5, u6, .int .i64 k, .pointer (some ⟨w.heap.size, 0, none⟩), u9, u10, u11, u12, u13, u14, u15, u16, u17, u18, u19, u20, u21, u22, u23, u24, u25, u26, u27, u28, u29, u30, u31, u32, u33], defers := [] }) (fun a' _ => (n - intOf (a'.tmps.getD 7 undef)).toNat) rfl ?_ ?_
  · rintro a' wr ⟨k, f, l, p0, p1, u3, u4, u5, u6, u9, u10, u11, u12, u13, u14, u15, u16, u17, u18, u19, u20, u21, u22, u23, u24, u25, u26, u27, u28, u29, u30, u31, u32, u33, k1, k2, hsp, ho', hn', hs', hbel, rfl⟩
    have hsz := hbel.size
    have c0 := scell0 hs'
    have HS := Lib.hid hsp
    have HO := Lib.hid ho'
    have HN := Lib.hid hn'
    have HT := Lib.hid hs'
    have HB := Lib.hid hbel
    clear hsp ho' hn' hs' hbel ho hn
    generalize hL : Cal.lastR f cd = L
    obtain ⟨v, er⟩ := L
    have HL := Lib.hid hL
    by_cases he : er = 0
    · subst he
      obtain ⟨y1, y2, y3, y4, y5, y6⟩ := Cal.lastR_inv hL
      obtain ⟨y7, y8⟩ := Cal.lastV_ge (f := f) (cd := cd) y1 y2 y3 y4
      rw [← y5] at y7
      clear y5 y8
      by_cases hk : k < n
      · have hrec : Cal.spanN cd (n - (k + 1)).toNat (v + 1) = Cal.spanN cd (n - 1).toNat start := by
          rw [← HS.out, show (n - k).toNat = (n - (k + 1)).toNat + 1 by omega, Cal.spanN, hL, if_pos rfl]
        have HR := Lib.hid hrec
        have dk : decide (k < n) = true := by simpa using hk
        clear hrec hL
        go_wp2_with fail
        refine (last_any _ _ _).mono ?_
        rintro e v1 ⟨rfl, hb1⟩
        rw [HL.out]
        have ht1 := HT.out.below hb1 HT.out.lt
        have c0 := scell0 ht1
        have c1 := scell1 ht1
        have z1 := ht1.frozen 1
        have ht2 : Blk (v1.setCell ⟨w.heap.size, 1, none⟩ (.int .i64 v)) w.heap.size 39 (scells f v) := sset1 ht1
        have ho2 : Blk (v1.setCell ⟨w.heap.size, 1, none⟩ (.int .i64 v)) go 39 (scells p0 p1) := (HO.out.below hb1 HO.out.lt).far (by simp; omega) _
        have hn2 : Blk (v1.setCell ⟨w.heap.size, 1, none⟩ (.int .i64 v)) gn 3 #[.int .i64 n] := (HN.out.below hb1 HN.out.lt).far (by simp; omega) _
        have hbe2 : Below B w (v1.setCell ⟨w.heap.size, 1, none⟩ (.int .i64 v)) := (HB.out.trans (hb1.mono (by omega))).setCell (by simp; omega) _
        have hz2 := ht2.lt
        have hs2 := hbe2.size
        go_wp2_with fail
        refine (spanKeep_any k f v p0 p1 n go gn B _ ho2 hn2 hne hB (by omega)).mono ?_
        rintro e v2 ⟨rfl, ho3, hkeep, hb2⟩
        rw [dk]
        have ht3 := hkeep _ _ _ (by omega) ht2
        have hn3 := hkeep _ _ _ (fun h => hne h.symm) hn2
        have c0 := scell0 ht3
        have c1 := scell1 ht3
        have z0 := ht3.frozen 0
        have hbe3 := hbe2.trans hb2
        clear hkeep
        have hs3 := hbe3.size
        go_wp2_with fail
        go_step3
        refine ⟨rfl, ⟨k + 1, v + 1, v, f, v, ?_⟩, ?_⟩
        · (repeat apply Exists.intro)
          exact ⟨by omega, by omega, HR.out, ho3.far (by simp; omega) _, hn3.far (by simp; omega) _, sset0 ht3, hbe3.setCell (by simp; omega) _, rfl⟩
        · simp [intOf]
          omega
      · have hrec : Cal.spanN cd (n - 1).toNat start = ((f, v), 0) := by
          rw [← HS.out, show (n - k).toNat = 0 by omega, Cal.spanN, hL, if_pos rfl]
        have HRC := Lib.hid hrec
        have dk : decide (k < n) = false := by simpa using hk
        clear hrec hL
        go_wp2_with fail
        refine (last_any _ _ _).mono ?_
        rintro e v1 ⟨rfl, hb1⟩
        rw [HL.out]
        have ht1 := HT.out.below hb1 HT.out.lt
        have c0 := scell0 ht1
        have c1 := scell1 ht1
        have z1 := ht1.frozen 1
        have ht2 : Blk (v1.setCell ⟨w.heap.size, 1, none⟩ (.int .i64 v)) w.heap.size 39 (scells f v) := sset1 ht1
        have ho2 : Blk (v1.setCell ⟨w.heap.size, 1, none⟩ (.int .i64 v)) go 39 (scells p0 p1) := (HO.out.below hb1 HO.out.lt).far (by simp; omega) _
        have hn2 : Blk (v1.setCell ⟨w.heap.size, 1, none⟩ (.int .i64 v)) gn 3 #[.int .i64 n] := (HN.out.below hb1 HN.out.lt).far (by simp; omega) _
        have hbe2 : Below B w (v1.setCell ⟨w.heap.size, 1, none⟩ (.int .i64 v)) := (HB.out.trans (hb1.mono (by omega))).setCell (by simp; omega) _
        have hz2 := ht2.lt
        have hs2 := hbe2.size
        go_wp2_with fail
        refine (spanKeep_any k f v p0 p1 n go gn B _ ho2 hn2 hne hB (by omega)).mono ?_
        rintro e v2 ⟨rfl, ho3, hkeep, hb2⟩
        rw [dk]
        go_wp2_with fail
        simp only [Exit.jump]
        go_ret
        rw [HRC.out]
        exact ⟨rfl, fun _ => ho3, hbe2.trans hb2⟩
    · have hx : (er != 0) = true := by simpa using he
      have hres : Cal.spanN cd (n - 1).toNat start = ((0, 0), er) := by
        rw [← HS.out]
        cases (n - k).toNat with
        | zero => rw [Cal.spanN, hL, if_neg he]
        | succ m => rw [Cal.spanN, hL, if_neg he]
      have HRC := Lib.hid hres
      clear hres hL
      go_wp2_with fail
      refine (last_any _ _ _).mono ?_
      rintro e v1 ⟨rfl, hb1⟩
      rw [HL.out]
      have ht1 := HT.out.below hb1 HT.out.lt
      have c0 := scell0 ht1
      have c1 := scell1 ht1
      have z1 := ht1.frozen 1
      go_wp2_with fail
      simp only [Exit.jump]
      go_ret
      rw [HRC.out]
      exact ⟨rfl, fun h => absurd h he, (HB.out.trans (hb1.mono (by omega))).setCell (by simp; omega) _⟩
  · intro hpass
    go_wp2_with fail
    go_step3
    rename_i hk
    refine hk _ _ (hpass _ _ ⟨1, start, 0, o0, o1, ?_⟩)
    (repeat apply Exists.intro)
    exact ⟨by omega, hn1, rfl, ho.alloc _, hn.alloc _, Blk.new w _ _, (Below.refl B w).alloc (by omega) _, rfl⟩
end Go.Proofs.Ytbkbeblogfakjaa
