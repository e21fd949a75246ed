/- JournalTorn: a record of which a leaf is torn is gone, those ahead of it stay, and there is room for it again. -/
import Derived.Test.YtdjkkpefljapcaaCrash
import Derived.Test.YtdjkkpefljapcaaJPages
namespace Go.Proofs.Ytdjkkpefljapcaa
open Go.RowKit
set_option linter.unusedVariables false
set_option linter.unusedSimpArgs false

def iArr (xs : List Int) : Array Value := (xs.map (Value.int .i64)).toArray
theorem Try.info3 : (Try.prog.info? 3).map (fun i => (i.zero, i.size, i.bytes)) = some (some (.int .i64 0), 1, 8) := by kernel_rfl
theorem make_ints (n : Nat) (h : n ≤ 1000) (w : World) : (Instr.makeSlice 34 (.int .i64 n) (.int .i64 n)).run Try.prog w = .ok (.slice (some ⟨w.heap.size, 0, none⟩) n n) (w.alloc (.cells (iArr (List.replicate n 0)) 3)) := by
  obtain ⟨i0, hi, hz0, hz1, hz2⟩ := info_parts Try.info3
  have := run_makeSlice (P := Try.prog) w 34 3 i0 _ Try.underlying34 hi hz0 .i64 .i64 n n (by omega) (by omega) (by rw [hz1]; omega) (by rw [hz2]; omega) (by omega)
  rw [this, hz1]
  have e : madeCells (Value.cells (.int .i64 0)) ((n : Int).toNat * 1) = iArr (List.replicate n 0) := by
    unfold iArr
    apply Array.ext'
    rw [show Value.cells (.int .i64 0) = #[Value.int .i64 0] from rfl, made_one]
    simp
  rw [e, Int.toNat_natCast]
theorem iArr_set (xs : List Int) (i : Nat) (v : Int) : (iArr xs).setIfInBounds i (.int .i64 v) = iArr (xs.set i v) := by
  unfold iArr
  rw [List.setIfInBounds_toArray, List.map_set]
theorem iArr_get (xs : List Int) (i : Nat) (hi : i < xs.length) : (iArr xs)[i]? = some (.int .i64 (xs.getD i 0)) := by simp [iArr, List.getD, List.getElem?_eq_getElem hi]
theorem iArr_nums {w : World} {g : Nat} {xs : List Int} (h : Blk w g 3 (iArr xs)) : Nums .i64 w (g + 1) (some ⟨g, 0, none⟩) xs.length xs := by
  refine ⟨by simp, fun _ => ⟨_, rfl, by simp, fun j u hu => ?_⟩⟩
  rw [Addr.add_lit, Nat.zero_add, h.cell]
  unfold iArr
  rw [List.getElem?_toArray]
  exact hu
/-- 48s up to k. -/
def fill48 (d k : Nat) : List Int := List.replicate k 48 ++ List.replicate (d - k) 0
theorem fill48_len {d k : Nat} (h : k ≤ d) : (fill48 d k).length = d := by simp [fill48]; omega
theorem fill48_zero (d : Nat) : fill48 d 0 = List.replicate d 0 := by simp [fill48]
theorem fill48_all (d : Nat) : fill48 d d = List.replicate d 48 := by simp [fill48]
theorem fill48_set {d k : Nat} (h : k < d) : (fill48 d k).set k 48 = fill48 d (k + 1) := by
  unfold fill48
  rw [List.set_append_right _ _ (by simp), List.length_replicate, Nat.sub_self, show d - k = (d - (k + 1)) + 1 from by omega, List.replicate_succ, List.set_cons_zero, List.replicate_succ', List.append_assoc]
  rfl
/-- A slice of slices that is laid out. -/
theorem lst_one {w : World} {B n c : Nat} {A : Option Addr} {b : List Int} (h : Nums .u8 w B A n b) (hB : B ≤ w.heap.size) : Lst (w.alloc (.cells #[.slice A n c] 44)) (w.heap.size + 1) (some ⟨w.heap.size, 0, none⟩) 1 [b] := by
  refine ⟨[.slice A n c], ⟨rfl, fun _ => ⟨_, rfl, by simp, fun j u hu => ?_⟩⟩, rfl, fun i hi => ?_⟩
  · rw [Addr.add_lit, Nat.zero_add, (Blk.new w 44 #[.slice A n c]).cell, ← hu]
    simp
  · obtain rfl : i = 0 := by omega
    exact ⟨A, n, c, rfl, Reads.more (Nums.below h (((Below.refl _ _).alloc (Nat.le_refl _) _).mono hB)) (by omega)⟩
theorem lst_two {w : World} {B n c n' c' : Nat} {A A' : Option Addr} {b b' : List Int} (h : Nums .u8 w B A n b) (h' : Nums .u8 w B A' n' b') (hB : B ≤ w.heap.size) : Lst (w.alloc (.cells #[.slice A n c, .slice A' n' c'] 44)) (w.heap.size + 1) (some ⟨w.heap.size, 0, none⟩) 2 [b, b'] := by
  refine ⟨[.slice A n c, .slice A' n' c'], ⟨rfl, fun _ => ⟨_, rfl, by simp, fun j u hu => ?_⟩⟩, rfl, fun i hi => ?_⟩
  · rw [Addr.add_lit, Nat.zero_add, (Blk.new w 44 #[.slice A n c, .slice A' n' c']).cell, ← hu]
    simp
  · have hi' : i = 0 ∨ i = 1 := by omega
    rcases hi' with rfl | rfl
    · exact ⟨A, n, c, rfl, Reads.more (Nums.below h (((Below.refl _ _).alloc (Nat.le_refl _) _).mono hB)) (by omega)⟩
    · exact ⟨A', n', c', rfl, Reads.more (Nums.below h' (((Below.refl _ _).alloc (Nat.le_refl _) _).mono hB)) (by omega)⟩

section
variable {w0 w w' : World} {g h j N : Nat} {F s : Int} {rs : List (List Int)} {v : Value}
theorem St.off (a : St w0 w g h j N F s rs v) {s' : Int} (hp : PadAt w' g h (padOf N F s' rs)) (ho : Off g h w w') : St w0 w' g h j N F s' rs v := ⟨hp, a.jou.off a.pad ho, a.ge, a.below.trans (ho.below a.ge.1 a.ge.2.1 a.below.size), a.fit, a.big⟩
theorem St.snag (a : St w0 w g h j N F s rs v) (n : Int) (hn : n ≤ 9223372036854775807) : Calls Try.prog 25 #[.pointer (some ⟨g, 0, none⟩), .int .i64 n] w fun e w' => e = .returned (.tuple #[]) ∧ St w0 w' g h j N F (max n 0) rs v ∧ Off g h w w' :=
  (snag_any n hn a.pad).mono fun e w' ⟨he, hp, ho⟩ => ⟨he, a.off hp ho, ho⟩
/-- Open, at a mended pad. -/
theorem St.open_ {p : Pd} {m : Nat} (hp : PadAt w g h p) (hd : p.down = false) (hs : p.snag = 0) (hF : p.falls = F) (hF2 : F < 1000000000) (hps : Parse p.dry.l 0 rs m) (hop : openP p m = padOf N F 0 rs) (hm : m = usedBy rs) (hg : w0.heap.size ≤ g) (hh : w0.heap.size ≤ h) (hb : Below w0.heap.size w0 w) (hfit : usedBy rs ≤ N) (hbig : ∀ b ∈ rs, 1 ≤ b.length ∧ b.length ≤ 100000) :
    Calls Try.prog 36 #[.pointer (some ⟨g, 0, none⟩)] w fun e w' => ∃ j v, e = .returned (.tuple #[.pointer (some ⟨j, 0, none⟩), .int .i64 0]) ∧ St w0 w' g h j N F 0 rs v ∧ w.heap.size ≤ j ∧ Off g h w w' ∧ Recs w' w.heap.size v rs := by
  refine (open_any rs m hp hd hs (by rw [hF]; exact hF2) hps).mono ?_
  rintro e w2 ⟨j, v, rfl, hp, hj, hj1, ho⟩
  rw [hop] at hp
  rw [hF, hm] at hj
  exact ⟨j, v, rfl, ⟨hp, hj.lower hb.size, ⟨hg, hh, Nat.le_trans hb.size hj1⟩, hb.trans (ho.below hg hh hb.size), hfit, hbig⟩, hj1, ho, hj.recs⟩
theorem St.records (a : St w0 w g h j N F s rs v) : Calls Try.prog 38 #[.pointer (some ⟨j, 0, none⟩)] w fun e w' => ∃ A c, e = .returned (.slice A rs.length c) ∧ Lst w' w'.heap.size A rs.length rs ∧ Below w.heap.size w w' := by
  refine (records_any a.jou a.big).mono ?_
  rintro e w' ⟨v', rfl, hr, hb⟩
  obtain ⟨A, c, rfl, hl⟩ := hr.lst
  exact ⟨A, c, rfl, hl, hb⟩
end
set_option maxRecDepth 100000 in
set_option maxHeartbeats 4000000 in
theorem torn_core (ad0 ad1 : Addr) (len0 cap0 len1 cap1 : Nat) (b1 b2 : List Int) (a2 a3 u2 u3 : Int) (d t q : Nat) (w : World)
    (hn0 : Nums .u8 w w.heap.size (some ad0) len0 b1) (hn1 : Nums .u8 w w.heap.size (some ad1) len1 b2) (c0 : len0 ≤ cap0) (c1 : len1 ≤ cap1) (cm0 : cap0 ≤ maxLen) (cm1 : cap1 ≤ maxLen) (hb1 : isBytes b1) (hb2 : isBytes b2)
    (l0 : 1 ≤ len0) (l0' : len0 ≤ 150) (l1 : 1 ≤ len1) (l1' : len1 ≤ 150)
    (hu2 : IntKind.u64.wrap a2 = u2) (hu3 : IntKind.u64.wrap a3 = u3) (g2 : 0 ≤ u2) (g3 : 0 ≤ u3) (hd : ((len1 : Int) + 40) / 41 = d) (hwd : IntKind.u64.wrap (d : Int) = (d : Int)) (ht : u2 % (d : Int) = t) (ht1 : t < d) (hq : u3 % 48 = q) (hq1 : (q : Int) < 48) :
    Calls Try.prog 14 #[.slice (some ad0) len0 cap0, .slice (some ad1) len1 cap1, .int .i64 a2, .int .i64 a3] w fun e w' => e = .returned (.bool true) ∧ Below w.heap.size w w' := by
  have hlb0 := hn0.len
  have hlb1 := hn1.len
  have hd1 : need b1 ≤ 4 := by unfold need; omega
  have hd2 : need b2 = d := by unfold need; omega
  have hd4 : 1 ≤ d ∧ d ≤ 4 := by omega
  have e0 : ((len0 : Int) == 0) = false := by rw [beq_eq_false_iff_ne]; omega
  have e1 : ((len1 : Int) == 0) = false := by rw [beq_eq_false_iff_ne]; omega
  have e2 : decide (150 < (len0 : Int)) = false := decide_eq_false (by omega)
  have e3 : decide (150 < (len1 : Int)) = false := decide_eq_false (by omega)
  obtain ⟨ad0', ea0, hlt0, _⟩ := hn0.2 (by omega)
  injection ea0 with ea0
  subst ea0
  obtain ⟨ad1', ea1, hlt1, _⟩ := hn1.2 (by omega)
  injection ea1 with ea1
  subst ea1
  have HN0 := Lib.hid hn0
  have HN1 := Lib.hid hn1
  have HBY1 := Lib.hid hb1
  have HBY2 := Lib.hid hb2
  have HD1 := Lib.hid hd1
  have HD2 := Lib.hid hd2
  have HL0 := Lib.hid hlb0
  have HL1 := Lib.hid hlb1
  have HU2 := Lib.hid hu2
  have HU3 := Lib.hid hu3
  have HT := Lib.hid ht
  have HQ := Lib.hid hq
  have HWD := Lib.hid hwd
  clear hn0 hn1 hb1 hb2 hd1 hd2 hlb0 hlb1 hu2 hu3 ht hq hwd
  go_enter Try.func14, Try.ntmps14
  go_wp2_with fail
  refine (new_any 10 (by omega) (by omega) _).mono ?_
  rintro e w1 ⟨g, h, rfl, hp, h1, h2, hb⟩
  have HO := Lib.hid (St.new (w0 := w) hp h1 h2 hb)
  clear hp h1 h2 hb
  go_wp2_with fail
  refine HO.out.mono ?_
  rintro e w2 ⟨j, v, rfl, hs⟩
  have HS := Lib.hid (show St w w2 g h j 10 0 0 [] v from hs)
  clear hs HO
  go_wp2_with fail
  refine (awake24 _).mono ?_
  rintro e w3 ⟨rfl, hb3⟩
  have HS3 := Lib.hid (HS.out.next hb3)
  clear hb3 HS
  have hge := HS3.out.ge
  have hadd := HS3.out.add0 ad0 len0 cap0 _ b1 (HN0.out.below HS3.out.below) (.inr hlt0) (by omega) c0 cm0 HBY1.out l0 (by omega) (by omega) (by have := HD1.out; simp [usedBy]; omega)
  have HADD := Lib.hid hadd
  clear hadd
  go_wp2_with fail
  refine HADD.out.mono ?_
  rintro e w4 ⟨rfl, v4, hs4, _, _⟩
  have HS4 := Lib.hid (show St w w4 g h j 10 0 0 [b1] v4 from hs4)
  clear hs4 HADD HS3
  go_wp2_with fail
  refine (HS4.out.snag ((d : Int) + 1) (by omega)).mono ?_
  rintro e w5 ⟨rfl, hs5, _⟩
  rw [show max ((d : Int) + 1) 0 = (d : Int) + 1 from by omega] at hs5
  have HS5 := Lib.hid hs5
  clear hs5 HS4
  have hadd := add_any ad1 len1 cap1 _ b2 HS5.out.jou HS5.out.pad (HN1.out.below HS5.out.below) (.inr hlt1) ⟨by omega, by omega⟩ c1 cm1 HBY2.out l1 (by omega) rfl rfl (by show (0 : Int) < 1000000000; omega) (by rw [padOf_len HS5.out.fit]; have := HD1.out; have := HD2.out; show (need b1 + 0) + need b2 ≤ 10; omega) (fun n hn _ => padOf_at hn) ⟨hge.1, hge.2.1, hge.2.2, HS5.out.below.size⟩
  have HADD := Lib.hid hadd
  clear hadd
  go_wp2_with fail
  refine HADD.out.mono ?_
  rintro e w6 (⟨_, hs1, _⟩ | ⟨rfl, _, _, hp6, _, hbl6, _⟩)
  · exfalso
    have := HD2.out
    have hs1' : (d : Int) + 1 = 0 ∨ ((need b2 : Nat) : Int) + 1 < (d : Int) + 1 := hs1
    omega
  have htk : (pagesV (usedBy [b1]) b2).take ((d : Int) + 1).toNat = (pagesV (usedBy [b1]) b2).take d := by
    rw [List.take_of_length_le (by rw [pagesV_len, HD2.out]; omega), List.take_of_length_le (by rw [pagesV_len, HD2.out]; omega)]
  have hp6' : PadAt w6 g h (hitP (padOf 10 0 ((d : Int) + 1) [b1]) (usedBy [b1]) ((pagesV (usedBy [b1]) b2).take d)) := by
    rw [← htk]
    exact hp6
  have HP6 := Lib.hid hp6'
  have HB6 := Lib.hid (HS5.out.below.trans hbl6)
  clear hp6 hp6' hbl6 htk HADD HS5
  have hms : (Instr.makeSlice 34 (.int .i64 (d : Int)) (.int .i64 (d : Int))).run Try.prog w6 = .ok (.slice (some ⟨w6.heap.size, 0, none⟩) d d) (w6.alloc (.cells (iArr (List.replicate d 0)) 3)) := make_ints d (by omega) w6
  obtain ⟨w7, hw7⟩ : ∃ w7, w6.alloc (.cells (iArr (List.replicate d 0)) 3) = w7 := ⟨_, rfl⟩
  rw [hw7] at hms
  have hal : Below w6.heap.size w6 w7 := by rw [← hw7]; exact (Below.refl _ _).alloc (Nat.le_refl _) _
  have hk7 : Blk w7 w6.heap.size 3 (iArr (fill48 d 0)) := by rw [← hw7, fill48_zero]; exact Blk.new w6 3 _
  have HK7 := Lib.hid hk7
  have HP7 := Lib.hid (HP6.out.below hal)
  have HB7 := Lib.hid (HB6.out.trans (hal.mono HB6.out.size))
  have hl6 := HP6.out.lt
  have hz6 := HB6.out.size
  clear hw7 hal hk7 HP6 HB6
  go_wp2_with fail
  go_loopw [78] (fun i wr => ∃ k : Nat, k ≤ d ∧ i = .int .i64 k ∧ Blk wr w6.heap.size 3 (iArr (fill48 d k)) ∧ PadAt wr g h (hitP (padOf 10 0 ((d : Int) + 1) [b1]) (usedBy [b1]) ((pagesV (usedBy [b1]) b2).take d)) ∧ Below w.heap.size w wr) (fun i _ => d - (intOf i).toNat)
  case atStart => exact ⟨0, Nat.zero_le _, rfl, HK7.out, HP7.out, HB7.out⟩
  case round =>
    obtain ⟨k, hk, rfl, hkk, hp, hb⟩ := hrel
    have HKK := Lib.hid hkk
    have HPR := Lib.hid hp
    have HBR := Lib.hid hb
    clear hkk hp hb HK7 HP7 HB7
    by_cases hlt : k < d
    · have hc : wr.cell? ⟨w6.heap.size, k, none⟩ = some (.int .i64 ((fill48 d k).getD k 0)) := by rw [HKK.out.cell, iArr_get _ _ (by rw [fill48_len hk]; exact hlt)]
      have hf := HKK.out.frozen k
      have hset := HKK.out.set_ k (.int .i64 48)
      rw [iArr_set, fill48_set hlt] at hset
      have HSET := Lib.hid hset
      clear hset
      go_wp2_with fail
      go_roundw
      case rel => exact ⟨k + 1, by omega, by go_num, HSET.out, HPR.out.far (by show g ≠ w6.heap.size; omega) (by show h ≠ w6.heap.size; omega) _, HBR.out.setCell hz6 _⟩
      case measure => simp [intOf]; omega
    · obtain rfl : k = d := by omega
      have hu2 := HU2.out
      have hu3 := HU3.out
      have hwd := HWD.out
      have ht := HT.out
      have hq := HQ.out
      rw [fill48_all] at HKK
      have hc : wr.cell? ⟨w6.heap.size, t, none⟩ = some (.int .i64 ((List.replicate k (48 : Int)).getD t 0)) := by rw [HKK.out.cell, iArr_get _ _ (by rw [List.length_replicate]; exact ht1)]
      have hf := HKK.out.frozen t
      have hset := HKK.out.set_ t (.int .i64 (q : Int))
      rw [iArr_set] at hset
      have HSET := Lib.hid hset
      have HPS := Lib.hid (HPR.out.far (q := ⟨w6.heap.size, t, none⟩) (by show g ≠ w6.heap.size; omega) (by show h ≠ w6.heap.size; omega) (.int .i64 (q : Int)))
      have HBS := Lib.hid (HBR.out.setCell (p := ⟨w6.heap.size, t, none⟩) hz6 (.int .i64 (q : Int)))
      clear hset HKK HPR HBR
      go_wp2_with fail
      generalize wr.setCell ⟨w6.heap.size, t, none⟩ (.int .i64 (q : Int)) = v8 at *
      obtain ⟨K, hK⟩ : ∃ K, (List.replicate k (48 : Int)).set t (q : Int) = K := ⟨_, rfl⟩
      have hKl : K.length = k := by rw [← hK]; simp
      have hKt : keepAt K t = q := by rw [← hK]; simp [keepAt, List.getD, ht1]
      have hKw : ∀ x ∈ K, (Lit.int .i64 x).wf = true := by
        intro x hx
        rw [← hK] at hx
        rcases List.mem_or_eq_of_mem_set hx with hx | rfl
        · rw [List.eq_of_mem_replicate hx]; rfl
        · exact WalkArith.wf_i64 (by omega)
      rw [hK] at HSET
      have hd2 := HD2.out
      have hfit : usedBy [b1] + need b2 ≤ 10 := by have := HD1.out; show (need b1 + 0) + need b2 ≤ 10; omega
      have hfall := fall_drop (N := 10) (F := 0) (s := (k : Int) + 1) (rs := [b1]) (b := b2) (k := k) (keep := K) hfit (by omega)
      have hbl1 : ∀ b ∈ [b1], 1 ≤ b.length := by
        intro b hb
        rw [List.mem_singleton] at hb
        subst hb
        rw [HL0.out]
        exact l0
      have hre := reopen_without (N := 10) (k := k) (F := 0 + 1) (rs := [b1]) (b := b2) (keep := K) hfit (by omega) hbl1 (by rw [HL1.out]; exact l1) (by omega) (fun hw => by
        have := hw.2 t (by omega)
        rw [hKt] at this
        omega)
      have HFALL := Lib.hid hfall
      have HRE := Lib.hid hre
      clear hfall hre hu2 hu3 hwd ht hq hK hKt
      refine (drop_any HPS.out (by show (0 : Int) + 1 < 1000000000; omega) (some ⟨w6.heap.size, 0, none⟩) k k (w6.heap.size + 1) K (fun w' ho => by
        have := iArr_nums (ho.blk HSET.out (by omega) (by omega))
        rw [hKl] at this
        exact this) hKw (by omega)).mono ?_
      rintro e v9 ⟨rfl, hp9, ho9⟩
      have HP9 := Lib.hid hp9
      have HB9 := Lib.hid (HBS.out.trans (ho9.below hge.1 hge.2.1 (HBS.out.size)))
      clear hp9 ho9 HPS HBS HSET
      go_wp2_with fail
      refine (mend_any HP9.out).mono ?_
      rintro e v10 ⟨rfl, hp10, ho10⟩
      have hp10' : PadAt v10 g h (crashP 10 (0 + 1) [b1] (tornL K 0 ((pagesV (usedBy [b1]) b2).take k))) := by
        rw [← HFALL.out]
        exact hp10
      have HP10 := Lib.hid hp10'
      have HB10 := Lib.hid (HB9.out.trans (ho10.below hge.1 hge.2.1 HB9.out.size))
      clear hp10 hp10' ho10 HP9 HB9
      have hopen := St.open_ (w0 := w) (N := 10) (F := 1) (rs := [b1]) HP10.out rfl rfl rfl (by omega) HRE.out.1 HRE.out.2 rfl hge.1 hge.2.1 HB10.out (by have := HD1.out; show need b1 + 0 ≤ 10; omega) (by
        intro b hb
        rw [List.mem_singleton] at hb
        subst hb
        rw [HL0.out]
        omega)
      have HOP := Lib.hid hopen
      clear hopen
      go_wp2_with fail
      refine HOP.out.mono ?_
      rintro e v11 ⟨j', v', rfl, hs11, _⟩
      have HS11 := Lib.hid hs11
      have HREC := Lib.hid hs11.records
      clear hs11 HOP HP10 HB10 HFALL HRE
      go_wp2_with fail
      refine HREC.out.mono ?_
      rintro e v12 ⟨A12, c12, rfl, hl12, hb12⟩
      rw [show ([b1] : List (List Int)).length = 1 from rfl] at hl12 ⊢
      have HS12 := Lib.hid (HS11.out.next hb12)
      have hal : Below v12.heap.size v12 (v12.alloc (.cells #[.slice (some ad0) len0 cap0] 44)) := (Below.refl _ _).alloc (Nat.le_refl _) _
      have hlit := lst_one (c := cap0) (HN0.out.below HS12.out.below) HS12.out.below.size
      have hby1 : ∀ b ∈ [b1], isBytes b := by
        intro b hb
        rw [List.mem_singleton] at hb
        subst hb
        exact HBY1.out
      have hli := lists_any A12 (some ⟨v12.heap.size, 0, none⟩) 1 1 c12 1 _ _ [b1] [b1] _ (hl12.below hal) hlit hby1 hby1 (by omega)
      rw [decide_eq_true rfl] at hli
      have HLI := Lib.hid hli
      have HS13 := Lib.hid (HS12.out.next hal)
      clear hl12 hb12 hal hlit hli HS11 HREC HS12
      go_wp2_with fail
      generalize v12.alloc (.cells #[.slice (some ad0) len0 cap0] 44) = v13 at *
      refine HLI.out.mono ?_
      rintro e v14 ⟨rfl, hq14⟩
      have HS14 := Lib.hid (HS13.out.quiet hq14)
      clear hq14 HS13 HLI
      have hadd := HS14.out.add0 ad1 len1 cap1 _ b2 (HN1.out.below HS14.out.below) (.inr hlt1) (by omega) c1 cm1 HBY2.out l1 (by omega) (by omega) hfit
      have HADD := Lib.hid hadd
      clear hadd
      go_wp2_with fail
      refine HADD.out.mono ?_
      rintro e v15 ⟨rfl, v15', hs15, _, _⟩
      have HS15 := Lib.hid (show St w v15 g h j' 10 1 0 [b1, b2] v15' from hs15)
      have HREC := Lib.hid hs15.records
      clear hs15 HADD HS14
      go_wp2_with fail
      refine HREC.out.mono ?_
      rintro e v16 ⟨A16, c16, rfl, hl16, hb16⟩
      rw [show ([b1] ++ [b2] : List (List Int)) = [b1, b2] from rfl, show ([b1, b2] : List (List Int)).length = 2 from rfl] at hl16
      rw [show ([b1] ++ [b2] : List (List Int)).length = 2 from rfl]
      have HS16 := Lib.hid (HS15.out.next hb16)
      have hal : Below v16.heap.size v16 (v16.alloc (.cells #[.slice (some ad0) len0 cap0, .slice (some ad1) len1 cap1] 44)) := (Below.refl _ _).alloc (Nat.le_refl _) _
      have hlit := lst_two (c := cap0) (c' := cap1) (HN0.out.below HS16.out.below) (HN1.out.below HS16.out.below) HS16.out.below.size
      have hby2 : ∀ b ∈ [b1, b2], isBytes b := by
        intro b hb
        simp only [List.mem_cons, List.not_mem_nil, or_false] at hb
        rcases hb with rfl | rfl
        · exact HBY1.out
        · exact HBY2.out
      have hli := lists_any A16 (some ⟨v16.heap.size, 0, none⟩) 2 2 c16 2 _ _ [b1, b2] [b1, b2] _ (hl16.below hal) hlit hby2 hby2 (by omega)
      rw [decide_eq_true rfl] at hli
      have HLI := Lib.hid hli
      have HB17 := Lib.hid (HS16.out.next hal).below
      clear hl16 hb16 hal hlit hli HS15 HREC HS16
      go_wp2_with fail
      generalize v16.alloc (.cells #[.slice (some ad0) len0 cap0, .slice (some ad1) len1 cap1] 44) = v17 at *
      refine HLI.out.mono ?_
      rintro e v18 ⟨rfl, hq18⟩
      have HB18 := Lib.hid (HB17.out.trans (hq18.below _))
      clear hq18
      go_wp2_with fail
      go_ret
      exact ⟨rfl, HB18.out⟩

set_option maxRecDepth 100000 in
set_option maxHeartbeats 1000000 in
theorem journalTorn_walk (A0 : Option Addr) (len0 cap0 : Nat) (z0 : List Int) (A1 : Option Addr) (len1 cap1 : Nat) (z1 : List Int) (a2 a3 : Int) (w : World) (w0 : IsRow .u8 w A0 len0 cap0 z0) (w1 : IsRow .u8 w A1 len1 cap1 z1) (w2 : (Lit.int .i64 a2).wf = true) (w3 : (Lit.int .i64 a3).wf = true) :
    Calls Try.prog 14 #[.slice A0 len0 cap0, .slice A1 len1 cap1, .int .i64 a2, .int .i64 a3] w fun e w' => e = .returned (.bool true) ∧ Below w.heap.size w w' := by
  by_cases c0 : len0 = 0
  · have e0 : ((len0 : Int) == 0) = true := by rw [c0]; rfl
    clear w0 w1 c0
    go_enter Try.func14, Try.ntmps14
    go_wp2_with fail
    refine (awake24 _).mono ?_
    rintro e v1 ⟨rfl, hb1⟩
    go_wp2_with fail
    go_ret
    exact ⟨rfl, hb1⟩
  · have e0 : ((len0 : Int) == 0) = false := by rw [beq_eq_false_iff_ne]; omega
    by_cases c1 : len1 = 0
    · have e1 : ((len1 : Int) == 0) = true := by rw [c1]; rfl
      clear w0 w1 c0 c1
      go_enter Try.func14, Try.ntmps14
      go_wp2_with fail
      refine (awake24 _).mono ?_
      rintro e v1 ⟨rfl, hb1⟩
      go_wp2_with fail
      go_ret
      exact ⟨rfl, hb1⟩
    · have e1 : ((len1 : Int) == 0) = false := by rw [beq_eq_false_iff_ne]; omega
      by_cases c2 : 150 < len0
      · have e2 : decide (150 < (len0 : Int)) = true := decide_eq_true (by omega)
        clear w0 w1 c0 c1 c2
        go_enter Try.func14, Try.ntmps14
        go_wp2_with fail
        refine (awake24 _).mono ?_
        rintro e v1 ⟨rfl, hb1⟩
        go_wp2_with fail
        go_ret
        exact ⟨rfl, hb1⟩
      · have e2 : decide (150 < (len0 : Int)) = false := decide_eq_false (by omega)
        by_cases c3 : 150 < len1
        · have e3 : decide (150 < (len1 : Int)) = true := decide_eq_true (by omega)
          clear w0 w1 c0 c1 c2 c3
          go_enter Try.func14, Try.ntmps14
          go_wp2_with fail
          refine (awake24 _).mono ?_
          rintro e v1 ⟨rfl, hb1⟩
          go_wp2_with fail
          go_ret
          exact ⟨rfl, hb1⟩
        · have hn0 := w0.nums
          have hn1 := w1.nums
          obtain ⟨ad0, rfl, _, _⟩ := hn0.2 (by omega)
          obtain ⟨ad1, rfl, _, _⟩ := hn1.2 (by omega)
          obtain ⟨u3, q, hu3, g3, _, hq, q1⟩ := u64_rest a3 48 (by omega)
          obtain ⟨d, hd⟩ : ∃ d : Nat, (len1 + 40) / 41 = d := ⟨_, rfl⟩
          obtain ⟨u2, t, hu2, g2, _, ht, t1⟩ := u64_rest a2 (d : Int) (by omega)
          have cm0 : cap0 ≤ maxLen := by
            rcases w0 with ⟨h, _⟩ | ⟨_, _, _, h, _⟩
            · cases h
            · exact h
          have cm1 : cap1 ≤ maxLen := by
            rcases w1 with ⟨h, _⟩ | ⟨_, _, _, h, _⟩
            · cases h
            · exact h
          exact torn_core ad0 ad1 len0 cap0 len1 cap1 _ _ a2 a3 u2 u3 d t q w hn0 hn1 w0.cap_ w1.cap_ cm0 cm1 (isBytes_of_wf w0.wf_) (isBytes_of_wf w1.wf_) (by omega) (by omega) (by omega) (by omega) hu2 hu3 g2 g3 (by omega) (by simp only [IntKind.wrap_u64]; omega) ht (by omega) hq q1
end Go.Proofs.Ytdjkkpefljapcaa
