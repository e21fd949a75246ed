/- JournalPages: the program's Page and Read answer as the document's. -/
import Derived.Test.YtdjkkpefljapcaaAdds
namespace Go.Proofs.Ytdjkkpefljapcaa
open Go.RowKit
set_option linter.unusedVariables false
set_option linter.unusedSimpArgs false

theorem isBytes_of_wf {l : List Int} (h : ∀ n ∈ l, (Lit.int .u8 n).wf = true) : isBytes l := by
  intro b hb
  have := h b hb
  have h1 := bounds_u8 this
  omega
/-- Page, and the document's Page: one answer. -/
theorem pages_same (n : Int) (first last : Bool) (b : List Int) (hb : isBytes b) : ∃ (x : List Int) (er : Int), x.length = 48 ∧ isBytes x ∧
    (∀ (A : Option Addr) (m cap B : Nat) (w : World), Nums .u8 w B A m b → B ≤ w.heap.size → Calls Try.prog 30 #[.int .i64 n, .bool first, .bool last, .slice A m cap] w fun e w' => e = .returned (.tuple #[.agg (bArr x), .int .i64 er]) ∧ Below w.heap.size w w') ∧
    (∀ (A : Option Addr) (m cap B : Nat) (w : World), Nums .u8 w B A m b → B ≤ w.heap.size → Calls Try.prog 31 #[.int .i64 n, .bool first, .bool last, .slice A m cap] w fun e w' => e = .returned (.tuple #[.agg (bArr x), .int .i64 er]) ∧ Below w.heap.size w w') := by
  by_cases h : 0 ≤ n ∧ n ≤ 20000 ∧ 1 ≤ b.length ∧ b.length ≤ 41 ∧ (last = true ∨ b.length = 41)
  · obtain ⟨h0, h1, h2, h3, h4⟩ := h
    refine ⟨pageV n first last b, 0, pageV_len h3, pageV_bytes h3 hb, fun A m cap B w hm hB => ?_, fun A m cap B w hm hB => ?_⟩
    · have hl := hm.len
      rw [hl] at h2 h3 h4
      obtain ⟨b0, o0, rfl, _, _⟩ := Reads.lit hm (by omega) (by decide)
      exact page_ok n first last _ m cap B b w h0 h1 hm hB hb h2 h3 h4
    · have hl := hm.len
      rw [hl] at h2 h3 h4
      obtain ⟨b0, o0, rfl, _, _⟩ := Reads.lit hm (by omega) (by decide)
      exact refPage_ok n first last _ m cap B b w h0 h1 hm hB hb h2 h3 h4
  · have hbad : ∀ m, b.length = m → badPage n last m := by
      intro m hl
      rw [hl] at h
      unfold badPage
      by_cases c1 : n < 0
      · exact .inl c1
      · by_cases c2 : 20000 < n
        · exact .inr (.inl ⟨by omega, c2⟩)
        · by_cases c3 : m = 0
          · exact .inr (.inr (.inl ⟨by omega, by omega, c3⟩))
          · by_cases c4 : 41 < m
            · exact .inr (.inr (.inr (.inl ⟨by omega, by omega, c4⟩)))
            · refine .inr (.inr (.inr (.inr ⟨by omega, by omega, by omega, ?_, ?_⟩)))
              · apply Classical.byContradiction
                intro hh
                exact h ⟨by omega, by omega, by omega, by omega, .inr (by omega)⟩
              · cases last with
                | false => rfl
                | true => exact absurd ⟨by omega, by omega, by omega, by omega, .inl rfl⟩ h
    exact ⟨zb, 1, zb_len, zb_bytes, fun A m cap B w hm _ => page_bad n first last A m cap w (hbad m hm.len), fun A m cap B w hm _ => refPage_bad n first last A m cap w (hbad m hm.len)⟩

/-- What stays through the calls of JournalPages. -/
structure KP (w0 : World) (raw : List Int) (g : Nat) (b : List Int) (A : Option Addr) (len : Nat) (w : World) : Prop where
  raw : Blk w w0.heap.size 26 (bArr raw)
  own : Blk w g 5 (ownCells b 71)
  arg : Nums .u8 w w0.heap.size A len b
  below : Below w0.heap.size w0 w
theorem KP.next {w0 w w' : World} {raw : List Int} {g : Nat} {b : List Int} {A : Option Addr} {len : Nat} (h : KP w0 raw g b A len w) (hb : Below w.heap.size w w') : KP w0 raw g b A len w' :=
  ⟨h.raw.below hb h.raw.lt, h.own.below hb h.own.lt, h.arg.below (hb.mono h.below.size), h.below.trans (hb.mono h.below.size)⟩
theorem own_nums' {w : World} {base : Nat} {A : Option Addr} {n c : Nat} {bs : List Int} (h : OwnB w base (.slice A n c) bs) : n = bs.length ∧ Nums .u8 w w.heap.size A bs.length bs := by
  obtain ⟨A', c', e, hr⟩ := own_form h
  injection e with e1 e2 e3
  subst e1 e2 e3
  exact ⟨rfl, hr⟩

set_option maxRecDepth 100000 in
set_option maxHeartbeats 4000000 in
theorem journalPages_walk (a0 : Int) (a1 a2 : Bool) (A : Option Addr) (len cap : Nat) (z : List Int) (x4 : List Int) (w : World) (w0 : (Lit.int .i64 a0).wf = true) (w3 : IsRow .u8 w A len cap z) (w4 : x4.length = 48 ∧ isBytes x4) :
    Calls Try.prog 8 #[.int .i64 a0, .bool a1, .bool a2, .slice A len cap, .agg (bArr x4)] w fun e w' => e = .returned (.bool true) ∧ Below w.heap.size w w' := by
  have hi64 : -9223372036854775808 ≤ a0 ∧ a0 ≤ 9223372036854775807 := bounds_i64 w0
  have hnil := w3.nil_
  have HB := Lib.hid (Blk.new w 26 (bArr x4))
  have hs0 : w.heap.size < (w.alloc (.cells (bArr x4) 26)).heap.size := by simp
  have HL := Lib.hid ((Below.refl w.heap.size w).alloc (Nat.le_refl _) (.cells (bArr x4) 26))
  by_cases hlen : len ≤ 200
  · obtain ⟨b, hbz⟩ : ∃ b, z.take len = b := ⟨_, rfl⟩
    have hnu : Nums .u8 w w.heap.size A len b := by rw [← hbz]; exact w3.nums
    have hby : isBytes b := by rw [← hbz]; exact isBytes_of_wf w3.wf_
    obtain ⟨x, er, hx48, hxb, hp30, hp31⟩ := pages_same a0 a1 a2 b hby
    have HN := Lib.hid (hnu.below HL.out)
    have HX := Lib.hid hx48
    have H30 := Lib.hid hp30
    have H31 := Lib.hid hp31
    have HBY := Lib.hid hby
    have HW4 := Lib.hid w4
    have HNIL := Lib.hid hnil
    have hbl := hnu.len
    have HBL := Lib.hid hbl
    clear hnu hx48 hp30 hp31 hbz hby w3 w4 hnil hbl
    go_enter Try.func8, Try.ntmps8
    go_wp2_with fail
    generalize hW : w.alloc (.cells (bArr x4) 26) = v0 at *
    clear hW
    refine (ownByte_any A len cap w.heap.size b 71 v0 HN.out HNIL.out (by omega) (by omega)).mono ?_
    rintro e v1 ⟨rfl, ho1, hb1⟩
    have HK1 := Lib.hid (show KP w x4 v0.heap.size b A len v1 from ⟨HB.out.below hb1 hs0, ho1, HN.out.below (hb1.mono (by omega)), HL.out.trans (hb1.mono (by omega))⟩)
    have hs1 : v0.heap.size < v1.heap.size := ho1.lt
    clear ho1 hb1 HB HL HN
    go_wp2_with fail
    have hnn : Nums .u8 v1 (v0.heap.size + 1) (some ⟨v0.heap.size, 0, none⟩) len b := by
      have := own_nums HK1.out.own
      rw [HBL.out] at this
      exact this
    refine (H30.out _ _ (len + 3) _ v1 hnn hs1).mono ?_
    clear hnn
    rintro e v2 ⟨rfl, hb2⟩
    have HK2 := Lib.hid (HK1.out.next hb2)
    clear hb2 HK1 hs1
    dsimp only
    have HX3 := Lib.hid (w26_blk v2 x HX.out)
    have HK3 := Lib.hid (HK2.out.next (w26_below v2 x))
    clear HK2
    generalize hW : w26 v2 x = v3 at *
    have HW := Lib.hid hW
    clear hW
    go_wp2_with (first
      | (with_reducible refine step_alloc 26 zArr Try.zero26 rfl rfl ?_)
      | (refine step_put26 (w := v2) x _ _ rfl rfl rfl rfl rfl HX.out HW.out ?_))
    refine (H31.out A len cap _ v3 HK3.out.arg HK3.out.below.size).mono ?_
    rintro e v4 ⟨rfl, hb4⟩
    have HX4 := Lib.hid (HX3.out.below hb4 HX3.out.lt)
    have HK4 := Lib.hid (HK3.out.next hb4)
    clear hb4 HK3 HX3 HW
    dsimp only
    have HX5 := Lib.hid (HX4.out.below (w26_below v4 x) HX4.out.lt)
    have HY5 := Lib.hid (w26_blk v4 x HX.out)
    have HK5 := Lib.hid (HK4.out.next (w26_below v4 x))
    clear HK4 HX4
    generalize hW : w26 v4 x = v5 at *
    have HW := Lib.hid hW
    clear hW
    go_wp2_with (first
      | (with_reducible refine step_alloc 26 zArr Try.zero26 rfl rfl ?_)
      | (refine step_put26 (w := v4) x _ _ rfl rfl rfl rfl rfl HX.out HW.out ?_)
      | (refine step_loadG 26 _ w.heap.size 0 (bArr x4) rfl rfl rfl HK5.out.raw.all _ Try.underlying26 rfl 48 Try.size26 (bArr_size HW4.out.1) ?_))
    refine (read_any a0 x4 HW4.out.1 HW4.out.2 hi64.1 hi64.2 _).mono ?_
    rintro e v6 (⟨hg, c1, rfl, hoc, hb6⟩ | ⟨hg, rfl, hb6⟩)
    · obtain ⟨f1, hf1⟩ : ∃ f1, decide (x4.getD 4 0 % 2 = 1) = f1 := ⟨_, rfl⟩
      obtain ⟨l1, hl1⟩ : ∃ l1, decide (2 ≤ x4.getD 4 0) = l1 := ⟨_, rfl⟩
      rw [hf1, hl1]
      have HF1 := Lib.hid hf1
      have HL1 := Lib.hid hl1
      clear hf1 hl1
      have HX6 := Lib.hid (HX5.out.below hb6 HX5.out.lt)
      have HY6 := Lib.hid (HY5.out.below hb6 HY5.out.lt)
      have HK6 := Lib.hid (HK5.out.next hb6)
      have HOC := Lib.hid hoc
      have HG := Lib.hid hg
      clear hb6 hg hoc HX5 HY5 HK5 HW
      go_wp2_with (refine step_loadG 26 _ w.heap.size 0 (bArr x4) rfl rfl rfl HK6.out.raw.all _ Try.underlying26 rfl 48 Try.size26 (bArr_size HW4.out.1) ?_)
      refine (refRead_any a0 x4 HW4.out.1 HW4.out.2 hi64.1 hi64.2 _).mono ?_
      rintro e v7 (⟨hg, c2, rfl, hod, hb7⟩ | ⟨hg, rfl, hb7⟩)
      case inr => exact absurd HG.out hg
      have HX7 := Lib.hid (HX6.out.below hb7 HX6.out.lt)
      have HY7 := Lib.hid (HY6.out.below hb7 HY6.out.lt)
      have HK7 := Lib.hid (HK6.out.next hb7)
      have HOC7 := Lib.hid (HOC.out.safe (Safe.of_below hb7 none) (fun k e => by cases e))
      have HOD := Lib.hid hod
      clear hb7 hg hod HX6 HY6 HK6 HOC HG
      rw [HF1.out, HL1.out]
      clear HF1 HL1
      go_wp2_with fail
      refine (awake24 _).mono ?_
      rintro e v8 ⟨rfl, hb8⟩
      have HX8 := Lib.hid (HX7.out.below hb8 HX7.out.lt)
      have HY8 := Lib.hid (HY7.out.below hb8 HY7.out.lt)
      have HK8 := Lib.hid (HK7.out.next hb8)
      have HOC8 := Lib.hid (HOC7.out.safe (Safe.of_below hb8 none) (fun k e => by cases e))
      have HOD8 := Lib.hid (HOD.out.safe (Safe.of_below hb8 none) (fun k e => by cases e))
      clear hb8 HX7 HY7 HK7 HOC7 HOD
      have hpb : isBytes (partOf x4) := fun y hy => HW4.out.2 y (List.mem_of_mem_drop (List.mem_of_mem_take hy))
      obtain ⟨A1, k1, rfl, hn1⟩ := own_form HOC8.out
      obtain ⟨A2, k2, rfl, hn2⟩ := own_form HOD8.out
      generalize partOf x4 = pt at *
      have HBC := Lib.hid (bytes_any A1 A2 pt.length pt.length k1 k2 _ _ pt pt v8 hn1 hn2 hpb hpb)
      have hdd : decide (pt = pt) = true := decide_eq_true rfl
      rw [hdd] at HBC
      have HKC := Lib.hid (keptByte_any v0.heap.size A len cap _ b 71 v8 HK8.out.own HK8.out.arg (by omega))
      have HL8 := Lib.hid HK8.out.below
      clear hdd hn1 hn2 hpb HOC8 HOD8
      cases f1 <;> cases l1 <;>
      · go_wp2_with (first
          | (refine step_loadG 26 _ v2.heap.size 0 (bArr x) rfl rfl rfl HX8.out.all _ Try.underlying26 rfl 48 Try.size26 (bArr_size HX.out) ?_)
          | (refine step_loadG 26 _ v4.heap.size 0 (bArr x) rfl rfl rfl HY8.out.all _ Try.underlying26 rfl 48 Try.size26 (bArr_size HX.out) ?_)
          | (refine step_eql26 x x _ _ _ rfl rfl rfl rfl HX.out HX.out true (by simp) ?_))
        refine HBC.out.mono ?_
        rintro e v9 ⟨rfl, rfl⟩
        go_wp2_with fail
        refine HKC.out.mono ?_
        rintro e v9 ⟨rfl, hq⟩
        have HQ := Lib.hid (HL8.out.trans (hq.below _))
        clear hq
        go_wp2_with fail
        go_ret
        exact ⟨rfl, HQ.out⟩
    · have HX6 := Lib.hid (HX5.out.below hb6 HX5.out.lt)
      have HY6 := Lib.hid (HY5.out.below hb6 HY5.out.lt)
      have HK6 := Lib.hid (HK5.out.next hb6)
      have HG := Lib.hid hg
      clear hb6 hg HX5 HY5 HK5 HW
      go_wp2_with (refine step_loadG 26 _ w.heap.size 0 (bArr x4) rfl rfl rfl HK6.out.raw.all _ Try.underlying26 rfl 48 Try.size26 (bArr_size HW4.out.1) ?_)
      refine (refRead_any a0 x4 HW4.out.1 HW4.out.2 hi64.1 hi64.2 _).mono ?_
      rintro e v7 (⟨hg, c2, rfl, hod, hb7⟩ | ⟨hg, rfl, hb7⟩)
      case inl => exact absurd hg HG.out
      have HX7 := Lib.hid (HX6.out.below hb7 HX6.out.lt)
      have HY7 := Lib.hid (HY6.out.below hb7 HY6.out.lt)
      have HK7 := Lib.hid (HK6.out.next hb7)
      clear hb7 hg HX6 HY6 HK6 HG
      generalize errR a0 x4 = er2 at *
      go_wp2_with fail
      refine (awake24 _).mono ?_
      rintro e v8 ⟨rfl, hb8⟩
      have HX8 := Lib.hid (HX7.out.below hb8 HX7.out.lt)
      have HY8 := Lib.hid (HY7.out.below hb8 HY7.out.lt)
      have HK8 := Lib.hid (HK7.out.next hb8)
      clear hb8 HX7 HY7 HK7
      have HBC := Lib.hid (bytes_any none none 0 0 0 0 0 0 [] [] v8 (Nums.nil _ _) (Nums.nil _ _) (by intro b hb; cases hb) (by intro b hb; cases hb))
      have hdd : decide (([] : List Int) = []) = true := rfl
      rw [hdd] at HBC
      have HKC := Lib.hid (keptByte_any v0.heap.size A len cap _ b 71 v8 HK8.out.own HK8.out.arg (by omega))
      have HL8 := Lib.hid HK8.out.below
      clear hdd
      go_wp2_with (first
        | (refine step_loadG 26 _ v2.heap.size 0 (bArr x) rfl rfl rfl HX8.out.all _ Try.underlying26 rfl 48 Try.size26 (bArr_size HX.out) ?_)
        | (refine step_loadG 26 _ v4.heap.size 0 (bArr x) rfl rfl rfl HY8.out.all _ Try.underlying26 rfl 48 Try.size26 (bArr_size HX.out) ?_)
        | (refine step_eql26 x x _ _ _ rfl rfl rfl rfl HX.out HX.out true (by simp) ?_))
      refine HBC.out.mono ?_
      rintro e v9 ⟨rfl, rfl⟩
      go_wp2_with fail
      refine HKC.out.mono ?_
      rintro e v9 ⟨rfl, hq⟩
      have HQ := Lib.hid (HL8.out.trans (hq.below _))
      clear hq
      go_wp2_with fail
      go_ret
      exact ⟨rfl, HQ.out⟩
  · clear hnil w3
    go_enter Try.func8, Try.ntmps8
    go_wp2_with fail
    generalize hW : w.alloc (.cells (bArr x4) 26) = v0 at *
    clear hW
    refine (awake24 _).mono ?_
    rintro e v1 ⟨rfl, hb1⟩
    have HL1 := Lib.hid (HL.out.trans (hb1.mono (by omega)))
    clear hb1
    go_wp2_with fail
    go_ret
    exact ⟨rfl, HL1.out⟩
end Go.Proofs.Ytdjkkpefljapcaa
