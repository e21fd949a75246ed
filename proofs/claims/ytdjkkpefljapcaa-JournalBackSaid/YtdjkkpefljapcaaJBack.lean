/- JournalBack: what Page writes is read; from another number, or with a byte turned, the program and the document read alike. -/
import Derived.Test.YtdjkkpefljapcaaJPages
import Derived.Laws.Closers25b
namespace Go.Proofs.Ytdjkkpefljapcaa
open Go.RowKit
set_option linter.unusedVariables false
set_option linter.unusedSimpArgs false

theorem isBytes_set {x : List Int} (h : isBytes x) (i : Nat) {v : Int} (h0 : 0 ≤ v) (h1 : v < 256) : isBytes (x.set i v) := by
  intro b hb
  rcases List.mem_or_eq_of_mem_set hb with hb | rfl
  · exact h b hb
  · exact ⟨h0, h1⟩
/-- Read and the document's Read, at one leaf: errors alike, and bytes alike. -/
theorem reads_same (n : Int) (x : List Int) (hx : x.length = 48) (hb : isBytes x) (hn0 : -9223372036854775808 ≤ n) (hn1 : n ≤ 9223372036854775807) : ∃ (f l : Bool) (pt : List Int) (er : Int), isBytes pt ∧
    (∀ w, Calls Try.prog 32 #[.int .i64 n, .agg (bArr x)] w fun e w' => ∃ v, e = .returned (.tuple #[.bool f, .bool l, v, .int .i64 er]) ∧ OwnB w' w.heap.size v pt ∧ Below w.heap.size w w') ∧
    (∀ w, Calls Try.prog 33 #[.int .i64 n, .agg (bArr x)] w fun e w' => ∃ v, e = .returned (.tuple #[.bool f, .bool l, v, .int .i64 er]) ∧ OwnB w' w.heap.size v pt ∧ Below w.heap.size w w') := by
  by_cases hg : good n x
  · refine ⟨decide (x.getD 4 0 % 2 = 1), decide (2 ≤ x.getD 4 0), partOf x, 0, fun y hy => hb y (List.mem_of_mem_drop (List.mem_of_mem_take hy)), fun w => ?_, fun w => ?_⟩
    · refine (read_any n x hx hb hn0 hn1 w).mono fun e w' h => ?_
      rcases h with ⟨_, v, h1, h2, h3⟩ | ⟨h, _⟩
      · exact ⟨v, h1, h2, h3⟩
      · exact absurd hg h
    · refine (refRead_any n x hx hb hn0 hn1 w).mono fun e w' h => ?_
      rcases h with ⟨_, v, h1, h2, h3⟩ | ⟨h, _⟩
      · exact ⟨v, h1, h2, h3⟩
      · exact absurd hg h
  · refine ⟨false, false, [], errR n x, (by intro b hb; cases hb), fun w => ?_, fun w => ?_⟩
    · refine (read_any n x hx hb hn0 hn1 w).mono fun e w' h => ?_
      rcases h with ⟨h, _⟩ | ⟨_, h1, h2⟩
      · exact absurd h hg
      · exact ⟨_, h1, World.ownsRow_nil _ _ _ _, h2⟩
    · refine (refRead_any n x hx hb hn0 hn1 w).mono fun e w' h => ?_
      rcases h with ⟨h, _⟩ | ⟨_, h1, h2⟩
      · exact absurd h hg
      · exact ⟨_, h1, World.ownsRow_nil _ _ _ _, h2⟩

set_option maxRecDepth 100000 in
set_option maxHeartbeats 4000000 in
theorem back_core (a0 a1 a5 u0 u1 u5 a6 : Int) (n m k : Nat) (first last : Bool) (A : Option Addr) (len cap : Nat) (b : List Int) (w : World)
    (hu0 : IntKind.u64.wrap a0 = u0) (hu1 : IntKind.u64.wrap a1 = u1) (hu5 : IntKind.u64.wrap a5 = u5) (g0 : 0 ≤ u0) (g1 : 0 ≤ u1) (g5 : 0 ≤ u5) (hn : u0 % 20000 = n) (hm : u1 % 20000 = m) (hk : u5 % 48 = k) (n1 : (n : Int) < 20000) (m1 : (m : Int) < 20000) (k1 : (k : Int) < 48)
    (h6 : 0 ≤ a6 ∧ a6 ≤ 255) (hnu : Nums .u8 w w.heap.size A len b) (hby : isBytes b) (l1 : 1 ≤ len) (l2 : len ≤ 41) (hl : last = true ∨ len = 41) :
    Calls Try.prog 9 #[.int .i64 a0, .int .i64 a1, .bool first, .bool last, .slice A len cap, .int .i64 a5, .int .u8 a6] w fun e w' => e = .returned (.bool true) ∧ Below w.heap.size w w' := by
  have hlb := hnu.len
  obtain ⟨b0, o0, rfl, _, _⟩ := Reads.lit hnu (by omega) (by decide)
  have H30 := Lib.hid (page_ok n first last _ len cap w.heap.size b w (by omega) (by omega) hnu (Nat.le_refl _) hby l1 l2 hl)
  obtain ⟨x, hx⟩ : ∃ x, pageV n first last b = x := ⟨_, rfl⟩
  have hx48 : x.length = 48 := by rw [← hx]; exact pageV_len (by omega)
  have hxb : isBytes x := by rw [← hx]; exact pageV_bytes (by omega) hby
  have hgood : good n x := by rw [← hx]; exact page_good first last (by omega) (by omega) (by omega) (by omega) (by rw [hlb]; exact hl)
  have hf : decide (x.getD 4 0 % 2 = 1) = first := by rw [← hx, page_get4, flag_first]
  have hl' : decide (2 ≤ x.getD 4 0) = last := by rw [← hx, page_get4, flag_last]
  have hpt : partOf x = b := by rw [← hx, page_part _ _ _ (by omega)]
  rw [hx] at H30
  obtain ⟨f2, l2', pt2, er2, hpb2, R2, S2⟩ := reads_same m x hx48 hxb (by omega) (by omega)
  have hxi := hxb.getD k
  obtain ⟨xi, hxie⟩ : ∃ xi, x.getD k 0 = xi := ⟨_, rfl⟩
  rw [hxie] at hxi
  obtain ⟨xv, hxv⟩ : ∃ xv, bits .xor .u8 xi a6 = xv := ⟨_, rfl⟩
  have hxvb : 0 ≤ xv ∧ xv < 256 := by
    have := bits_within .xor .u8 xi a6
    rw [hxv] at this
    have e1 : IntKind.u8.min = 0 := rfl
    have e2 : IntKind.u8.max = 255 := rfl
    omega
  obtain ⟨f3, l3, pt3, er3, hpb3, R3, S3⟩ := reads_same n (x.set k xv) (by rw [List.length_set]; exact hx48) (isBytes_set hxb k hxvb.1 hxvb.2) (by omega) (by omega)
  have d1 : decide ((len : Int) < 1) = false := decide_eq_false (by omega)
  have d2 : decide (41 < (len : Int)) = false := decide_eq_false (by omega)
  have HX := Lib.hid hx48
  have HXB := Lib.hid hxb
  have HG := Lib.hid hgood
  have HF := Lib.hid hf
  have HL := Lib.hid hl'
  have HPT := Lib.hid hpt
  have HN := Lib.hid hnu
  have HBY := Lib.hid hby
  have HR2 := Lib.hid R2
  have HS2 := Lib.hid S2
  have HR3 := Lib.hid R3
  have HS3 := Lib.hid S3
  have HXI := Lib.hid hxie
  have HP2 := Lib.hid hpb2
  have HP3 := Lib.hid hpb3
  have HLB := Lib.hid hlb
  clear hx48 hxb hgood hf hl' hpt hnu hby R2 S2 R3 S3 hxie hpb2 hpb3 hx hlb
  have d3 : last = true ∨ (last = false ∧ decide ((len : Int) < 41) = false) := by
    cases last with
    | true => exact .inl rfl
    | false => exact .inr ⟨rfl, decide_eq_false (hl.elim (fun h => by cases h) (fun h => by omega))⟩
  clear hl
  rcases d3 with rfl | ⟨rfl, d3⟩
  all_goals
    go_enter Try.func9, Try.ntmps9
    go_wp2_with fail
    refine H30.out.mono ?_
    rintro e v1 ⟨rfl, hb1⟩
    have HB1 := Lib.hid hb1
    have hs1 := hb1.size
    clear hb1 hu0 hu1
    dsimp only
    have HX2 := Lib.hid (w26_blk v1 x HX.out)
    have HB2 := Lib.hid (HB1.out.trans ((w26_below v1 x).mono hs1))
    generalize hW : w26 v1 x = v2 at *
    have HW := Lib.hid hW
    clear hW
    have hs2 := HB2.out.size
    go_wp2_with (first
      | (with_reducible refine step_alloc 26 zArr Try.zero26 rfl rfl ?_)
      | (refine step_put26 (w := v1) x _ _ rfl rfl rfl rfl rfl HX.out HW.out ?_)
      | (refine step_loadG 26 _ v1.heap.size 0 (bArr x) rfl rfl rfl HX2.out.all _ Try.underlying26 rfl 48 Try.size26 (bArr_size HX.out) ?_))
    refine (read_any n x HX.out HXB.out (by omega) (by omega) _).mono ?_
    rintro e v3 (⟨_, c1, rfl, hoc, hb3⟩ | ⟨hg, _⟩)
    case inr => exact absurd HG.out hg
    rw [HF.out, HL.out]
    rw [HPT.out] at hoc
    have HX3 := Lib.hid (HX2.out.below hb3 HX2.out.lt)
    have HB3 := Lib.hid (HB2.out.trans (hb3.mono hs2))
    have HOC := Lib.hid hoc
    clear hb3 hoc HX2 HW HG HF HL HPT
    go_wp2_with fail
    refine (awake24 _).mono ?_
    rintro e v4 ⟨rfl, hb4⟩
    have HX4 := Lib.hid (HX3.out.below hb4 HX3.out.lt)
    have HOC4 := Lib.hid (HOC.out.safe (Safe.of_below hb4 none) (fun k e => by cases e))
    have HB4 := Lib.hid (HB3.out.trans (hb4.mono HB3.out.size))
    clear hb4 HX3 HOC
    obtain ⟨A1, q1, rfl, hn1⟩ := own_form HOC4.out
    have HBC := Lib.hid (bytes_any A1 (some ⟨b0, o0, none⟩) b.length len q1 cap _ _ b b v4 hn1 (HN.out.below HB4.out) HBY.out HBY.out)
    have hdd : decide (b = b) = true := decide_eq_true rfl
    rw [hdd] at HBC
    clear hdd hn1 HOC4
    go_wp2_with fail
    refine HBC.out.mono ?_
    rintro e v5 ⟨rfl, rfl⟩
    have hs4 := HB4.out.size
    go_wp2_with (refine step_loadG 26 _ v1.heap.size 0 (bArr x) rfl rfl rfl HX4.out.all _ Try.underlying26 rfl 48 Try.size26 (bArr_size HX.out) ?_)
    refine (HR2.out _).mono ?_
    rintro e v6 ⟨c2, rfl, _, hb6⟩
    have HX6 := Lib.hid (HX4.out.below hb6 HX4.out.lt)
    have HB6 := Lib.hid (HB4.out.trans (hb6.mono hs4))
    clear hb6 HX4 HBC
    have hs6 := HB6.out.size
    go_wp2_with (refine step_loadG 26 _ v1.heap.size 0 (bArr x) rfl rfl rfl HX6.out.all _ Try.underlying26 rfl 48 Try.size26 (bArr_size HX.out) ?_)
    refine (HS2.out _).mono ?_
    rintro e v7 ⟨c3, rfl, _, hb7⟩
    have HX7 := Lib.hid (HX6.out.below hb7 HX6.out.lt)
    have HB7 := Lib.hid (HB6.out.trans (hb7.mono hs6))
    clear hb7 HX6
    have hcell : v7.cell? ⟨v1.heap.size, k, none⟩ = some (.int .u8 xi) := by rw [HX7.out.cell, bArr_get x k (by rw [HX.out]; omega), HXI.out]
    have hfroz := HX7.out.frozen k
    have HX8 := Lib.hid (HX7.out.set_ k (.int .u8 xv))
    rw [bArr_set] at HX8
    have HB8 := Lib.hid (HB7.out.setCell (p := ⟨v1.heap.size, k, none⟩) hs1 (.int .u8 xv))
    go_wp2_with (refine step_loadG 26 _ v1.heap.size 0 (bArr (x.set k xv)) rfl rfl rfl HX8.out.all _ Try.underlying26 rfl 48 Try.size26 (bArr_size (by rw [List.length_set]; exact HX.out)) ?_)
    generalize v7.setCell ⟨v1.heap.size, k, none⟩ (.int .u8 xv) = v8 at *
    refine (HR3.out _).mono ?_
    rintro e v9 ⟨c4, rfl, ho4, hb9⟩
    have HX9 := Lib.hid (HX8.out.below hb9 HX8.out.lt)
    have HB9 := Lib.hid (HB8.out.trans (hb9.mono HB8.out.size))
    have HO4 := Lib.hid ho4
    clear hb9 ho4 HX8 HX7 HB7 hcell hfroz
    go_wp2_with (refine step_loadG 26 _ v1.heap.size 0 (bArr (x.set k xv)) rfl rfl rfl HX9.out.all _ Try.underlying26 rfl 48 Try.size26 (bArr_size (by rw [List.length_set]; exact HX.out)) ?_)
    refine (HS3.out _).mono ?_
    rintro e v10 ⟨c5, rfl, ho5, hb10⟩
    have HB10 := Lib.hid (HB9.out.trans (hb10.mono HB9.out.size))
    have ho4' := HO4.out.safe (Safe.of_below hb10 none) (fun k e => by cases e)
    obtain ⟨A4, q4, rfl, hn4⟩ := own_form ho4'
    obtain ⟨A5, q5, rfl, hn5⟩ := own_form ho5
    have HBC := Lib.hid (bytes_any A4 A5 pt3.length pt3.length q4 q5 _ _ pt3 pt3 v10 hn4 hn5 HP3.out HP3.out)
    have hdd : decide (pt3 = pt3) = true := decide_eq_true rfl
    rw [hdd] at HBC
    clear hdd hn4 hn5 ho4' ho5 hb10 HX9 HO4
    go_wp2_with fail
    refine HBC.out.mono ?_
    rintro e v11 ⟨rfl, rfl⟩
    go_wp2_with fail
    go_ret
    exact ⟨rfl, HB10.out⟩

set_option maxRecDepth 100000 in
set_option maxHeartbeats 1000000 in
theorem journalBack_walk (a0 a1 : Int) (a2 a3 : Bool) (A : Option Addr) (len cap : Nat) (z : List Int) (a5 a6 : Int) (w : World) (w0 : (Lit.int .i64 a0).wf = true) (w1 : (Lit.int .i64 a1).wf = true) (w4 : IsRow .u8 w A len cap z) (w5 : (Lit.int .i64 a5).wf = true) (w6 : (Lit.int .u8 a6).wf = true) :
    Calls Try.prog 9 #[.int .i64 a0, .int .i64 a1, .bool a2, .bool a3, .slice A len cap, .int .i64 a5, .int .u8 a6] w fun e w' => e = .returned (.bool true) ∧ Below w.heap.size w w' := by
  obtain ⟨u0, n, hu0, g0, _, hn, n1⟩ := u64_rest a0 20000 (by omega)
  obtain ⟨u1, m, hu1, g1, _, hm, m1⟩ := u64_rest a1 20000 (by omega)
  obtain ⟨u5, k, hu5, g5, _, hk, k1⟩ := u64_rest a5 48 (by omega)
  by_cases h : 1 ≤ len ∧ len ≤ 41 ∧ (a3 = true ∨ len = 41)
  · exact back_core a0 a1 a5 u0 u1 u5 a6 n m k a2 a3 A len cap _ w hu0 hu1 hu5 g0 g1 g5 hn hm hk n1 m1 k1 (bounds_u8 w6) w4.nums (isBytes_of_wf w4.wf_) h.1 h.2.1 h.2.2
  · clear w4 hu5 hk
    by_cases c1 : len < 1
    · have d1 : decide ((len : Int) < 1) = true := decide_eq_true (by omega)
      clear h
      go_enter Try.func9, Try.ntmps9
      go_wp2_with fail
      refine (awake24 _).mono ?_
      rintro e v1 ⟨rfl, hb1⟩
      go_wp2_with fail
      go_ret
      exact ⟨rfl, hb1⟩
    · by_cases c2 : 41 < len
      · have d1 : decide ((len : Int) < 1) = false := decide_eq_false (by omega)
        have d2 : decide (41 < (len : Int)) = true := decide_eq_true (by omega)
        clear h
        go_enter Try.func9, Try.ntmps9
        go_wp2_with fail
        refine (awake24 _).mono ?_
        rintro e v1 ⟨rfl, hb1⟩
        go_wp2_with fail
        go_ret
        exact ⟨rfl, hb1⟩
      · have d1 : decide ((len : Int) < 1) = false := decide_eq_false (by omega)
        have d2 : decide (41 < (len : Int)) = false := decide_eq_false (by omega)
        cases a3 with
        | true => exact absurd ⟨by omega, by omega, .inl rfl⟩ h
        | false =>
          have d3 : decide ((len : Int) < 41) = true := decide_eq_true (by
            have : len ≠ 41 := fun e => h ⟨by omega, by omega, .inr e⟩
            omega)
          clear h
          go_enter Try.func9, Try.ntmps9
          go_wp2_with fail
          refine (awake24 _).mono ?_
          rintro e v1 ⟨rfl, hb1⟩
          go_wp2_with fail
          go_ret
          exact ⟨rfl, hb1⟩
end Go.Proofs.Ytdjkkpefljapcaa
