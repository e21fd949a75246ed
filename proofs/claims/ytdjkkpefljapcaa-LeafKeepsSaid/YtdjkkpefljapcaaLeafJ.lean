/- The walk of the law LeafKeeps. -/
import Derived.Test.YtdjkkpefljapcaaKeep
import Derived.Deep.DeepCutAuto
namespace Go.Proofs.Ytdjkkpefljapcaa
open Go.RowKit
set_option linter.unusedVariables false
set_option linter.unusedSimpArgs false

/-- Operations that are not wanted, one behind the other. -/
def skips (ops : Array Oper) : List Oper → Act → Bool
  | [], _ => true
  | o :: r, a => !Region.wanted o (yielded ops a.tmps) && skips ops r (a.put o.dst undef)
def skipPut : List Oper → Act → Act
  | [], a => a
  | o :: r, a => skipPut r (a.put o.dst undef)
theorem wpList_skipped {P : Program} {ops : Array Oper} {w : World} {Q : Exit → Act → World → Prop} : ∀ (l1 l2 : List Oper) (a : Act), skips ops l1 a = true → wpList P ops Q l2 (skipPut l1 a) w → wpList P ops Q (l1 ++ l2) a w
  | [], _, _, _, h => h
  | o :: r, l2, a, hs, h => by
    simp only [skips, Bool.and_eq_true, Bool.not_eq_true'] at hs
    rw [List.cons_append, wpList, if_neg (by rw [hs.1]; simp)]
    exact wpList_skipped r l2 _ hs.2 h
theorem wpList_skip {P : Program} {ops : Array Oper} {l : List Oper} {a : Act} {w : World} {Q : Exit → Act → World → Prop} (n : Nat) (hs : skips ops (l.take n) a = true) (h : ∀ a', a' = skipPut (l.take n) a → wpList P ops Q (l.drop n) a' w) : wpList P ops Q l a w := by
  rw [← List.take_append_drop n l]
  exact wpList_skipped _ _ _ hs (h _ rfl)

/-- Where the walk stands: the pad, the full bytes, and all that was there before. -/
structure Kst (w wr : World) (g h f : Nat) (p : Pd) : Prop where
  pad : PadAt wr g h p
  full : Blk wr f 26 (bArr fullB)
  bel : Below w.heap.size w wr
theorem Kst.next {w wr w' : World} {g h f : Nat} {p q : Pd} (s : Kst w wr g h f p) (hp : PadAt w' g h q) (ho : Off g h wr w') (h1 : w.heap.size ≤ g) (h2 : w.heap.size ≤ h) (n1 : f ≠ g) (n2 : f ≠ h) : Kst w w' g h f q :=
  ⟨hp, ho.blk s.full n1 n2, s.bel.trans (ho.below h1 h2 s.bel.size)⟩
theorem Kst.same {w wr w' : World} {g h f : Nat} {p : Pd} (s : Kst w wr g h f p) (hb : Below wr.heap.size wr w') : Kst w w' g h f p := ⟨s.pad.below hb, s.full.below hb s.full.lt, s.bel.trans (hb.mono s.bel.size)⟩
theorem Kst.eq {w wr : World} {g h f : Nat} {p q : Pd} (s : Kst w wr g h f p) (e : p = q) : Kst w wr g h f q := e ▸ s

/-- The last round's k: what is kept of a wet leaf. -/
def KK (v : Int) (k : Nat) : Prop := (v < 0 ∧ k = 0) ∨ (v = 0 ∧ k = 0) ∨ (0 < v ∧ v < 48 ∧ (k : Int) = v) ∨ (v = 48 ∧ k = 48) ∨ (48 < v ∧ k = 48)
/-- What stands on a leaf in the end, and how many bytes were kept. -/
def KL (k : Nat) (L : List Int) (ib : Bool) : Prop := (k = 0 ∧ L = zb ∧ ib = false) ∨ (k = 48 ∧ L = fullB ∧ ib = true) ∨ (0 < k ∧ k < 48 ∧ L = fullB.take k ++ List.replicate (48 - k) 255 ∧ ib = true)
theorem fullB_get (i : Nat) (h : i < 48) : fullB.getD i 0 = (i : Int) + 1 := by simp [fullB, List.getD, h]
theorem keptB_get0 (k : Nat) (h : 1 ≤ k) : (fullB.take k ++ List.replicate (48 - k) 255).getD 0 0 = 1 := by
  rw [List.getD, List.getElem?_append_left (by simp [fullB]; omega), List.getElem?_take_of_lt (by omega)]
  rfl
theorem keptB_len (k : Nat) : (fullB.take k ++ List.replicate (48 - k) 255).length = 48 := by simp [fullB]; omega
theorem keptB_get (k i : Nat) (h : k ≤ i) (h2 : i < 48) : (fullB.take k ++ List.replicate (48 - k) 255).getD i 0 = 255 := by
  rw [List.getD, List.getElem?_append_right (by simp [fullB]; omega), List.getElem?_replicate, if_pos (by simp [fullB]; omega)]
  rfl
theorem keptB_all (k : Nat) (h : 48 ≤ k) : fullB.take k ++ List.replicate (48 - k) 255 = fullB := by
  rw [List.take_of_length_le (by rw [fullB_len]; exact h), show 48 - k = 0 from by omega]
  simp

set_option maxRecDepth 100000 in
set_option maxHeartbeats 8000000 in
theorem leafKeeps_core (a0 : Option Addr) (len0 cap0 : Nat) (bs : List Bool) (a1 : Option Addr) (len1 cap1 : Nat) (keep : List Int) (w : World) (hbs : Bools w w.heap.size a0 len0 bs) (hl0 : len0 ≤ maxLen)
    (hk : Nums .i64 w w.heap.size a1 len1 keep) (hwf : ∀ x ∈ keep, (Lit.int .i64 x).wf = true) (hl : len1 ≤ 20) :
    Calls Try.prog 4 #[.slice a0 len0 cap0, .slice a1 len1 cap1] w fun e w' => e = .returned (.bool true) ∧ Below w.heap.size w w' := by
  unfold maxLen at hl0
  have hd : decide (20 < (len1 : Int)) = false := decide_eq_false (by omega)
  obtain ⟨W, hW⟩ : ∃ W : Nat → Bool, W = fun t => bs.getD t false := ⟨_, rfl⟩
  have HWW := Lib.hid hW
  have hklen := hk.len
  have hblen := hbs.len
  have HBL := Lib.hid hblen
  have HKL := Lib.hid hklen
  have HBS := Lib.hid hbs
  have HK := Lib.hid hk
  clear hW hbs hk hklen hblen
  go_enter Try.func4, Try.ntmps4
  go_wp2_with fail
  refine (new_any 8 (by omega) (by omega) _).mono ?_
  rintro e v1 ⟨g, h, rfl, hp, h1, h2, hb⟩
  have S1 := Lib.hid (show Stands w v1 w.heap.size g h (Pd.new 8) from ⟨hp, hb⟩)
  clear hp hb
  go_wp2_with fail
  refine (awake23 _).mono ?_
  rintro e v2 ⟨rfl, hb⟩
  have S2 := Lib.hid (S1.out.same (Nat.le_refl _) hb)
  clear hb S1
  have hgh := S2.out.1.lt
  obtain ⟨f, hf⟩ : ∃ f, v2.heap.size = f := ⟨_, rfl⟩
  have hwf2 : w.heap.size ≤ v2.heap.size := S2.out.2.size
  have hgf : g < f ∧ h < f ∧ w.heap.size ≤ f := by omega
  have B0 := Lib.hid (Blk.new v2 26 zArr)
  have S3 := Lib.hid (S2.out.same (Nat.le_refl _) ((Below.refl _ _).alloc (Nat.le_refl _) (.cells zArr 26)))
  go_wp2_with (with_reducible refine step_alloc 26 zArr Try.zero26 rfl rfl ?_)
  generalize hW : v2.alloc (.cells zArr 26) = v3 at *
  rw [hf] at *
  obtain ⟨hgf1, hgf2, hgf3⟩ := hgf
  clear hW S2 hf
  go_loopw [27] (fun i wr => ∃ k : Nat, k ≤ 48 ∧ i = .int .i64 k ∧ Blk wr f 26 (bArr (fillL k)) ∧ PadAt wr g h (Pd.new 8) ∧ Below w.heap.size w wr) (fun i _ => 48 - (intOf i).toNat)
  case atStart => exact ⟨0, by omega, rfl, B0.out, S3.out.1, S3.out.2⟩
  case round =>
    obtain ⟨k, hk48, rfl, hb, hp, hbel⟩ := hrel
    clear B0 S3
    have HB := Lib.hid hb
    have HP := Lib.hid hp
    have HBE := Lib.hid hbel
    by_cases hlt : k < 48
    · have c0 : wr.cell? ⟨f, k, none⟩ = some (.int .u8 ((fillL k).getD k 0)) := by rw [hb.cell, bArr_get _ _ (by rw [fillL_len hk48]; omega)]
      have f0 := hb.frozen k
      clear hb hp hbel
      go_wp2
      go_roundw
      case rel =>
        refine ⟨k + 1, by omega, by go_num, ?_, HP.out.far (by show g ≠ f; omega) (by show h ≠ f; omega) _, HBE.out.setCell (by show w.heap.size ≤ f; omega) _⟩
        have := HB.out.set_ k (.int .u8 ((k : Int) + 1))
        rwa [bArr_set, fillL_set hlt] at this
      case measure => (try simp [intOf]) <;> omega
    · obtain rfl : k = 48 := by omega
      rw [fillL_all] at hb
      have S4 := Lib.hid (show Kst w wr g h f (st (f2 W 7)) from ⟨by rw [← f2_start]; exact hp, hb, hbel⟩)
      obtain ⟨v4, rfl⟩ : ∃ v4 : World, v4 = wr := ⟨_, rfl⟩
      clear hb hp hbel HB HP HBE hlt hk48
      go_wp2_with fail
      go_loopw [8] (fun i wr => ∃ j : Int, -1 ≤ j ∧ j ≤ 7 ∧ i = .int .i64 j ∧ Kst w wr g h f (st (f2 W j))) (fun i _ => (intOf i + 1).toNat)
      case atStart => exact ⟨7, by omega, by omega, rfl, S4.out⟩
      case round =>
        obtain ⟨j, hj1, hj2, rfl, s⟩ := hrel
        have S := Lib.hid s
        clear s S4
        by_cases hj : 0 ≤ j
        · obtain ⟨n, rfl⟩ : ∃ n : Nat, j = n := ⟨j.toNat, by omega⟩
          by_cases hn : n < len0
          · obtain ⟨ad, rfl, _, cb⟩ := (HBS.out.below S.out.bel).at_ hn
            cases hwn : bs.getD n false with
            | true =>
              have HW1 := Lib.hid (show W n = true by rw [HWW.out]; exact hwn)
              rw [hwn] at cb
              clear hwn
              go_wp2_with (refine step_loadG 26 _ f 0 (bArr fullB) rfl rfl rfl S.out.full.all _ Try.underlying26 rfl 48 Try.size26 (bArr_size fullB_len) ?_)
              refine (ink_put n fullB 0 S.out.pad (by show (0 : Int) < 1000000000; omega) rfl (by rw [st_len]; omega) (f2_at W n (by omega)) fullB_len fullB_bytes rfl).mono ?_
              rintro e v5 ⟨rfl, hp, ho⟩
              have S5 := Lib.hid ((S.out.next hp ho h1 h2 (by omega) (by omega)).eq (f2_yes W n (by omega) HW1.out))
              clear hp ho S cb
              go_wp2_with fail
              go_roundw
              case rel => first | exact ⟨(n : Int) - 1, by omega, by omega, by first | rfl | go_num, S5.out⟩ | ((repeat apply Exists.intro); exact ⟨⟨(n : Int) - 1, by omega, by omega, by first | rfl | go_num, S5.out⟩, rfl⟩)
              case measure => (try simp [intOf]) <;> omega
            | false =>
              have HW1 := Lib.hid (show W n = false by rw [HWW.out]; exact hwn)
              rw [hwn] at cb
              clear hwn
              go_wp2_with fail
              go_roundw
              case rel => exact ⟨(n : Int) - 1, by omega, by omega, by first | rfl | go_num, S.out.eq (f2_no W n HW1.out)⟩
              case measure => (try simp [intOf]) <;> omega
          · have HW1 := Lib.hid (show W n = false by rw [HWW.out]; show bs.getD n false = false; rw [List.getD, List.getElem?_eq_none (by rw [HBL.out]; omega)]; rfl)
            go_wp2_with fail
            go_roundw
            case rel => exact ⟨(n : Int) - 1, by omega, by omega, by first | rfl | go_num, S.out.eq (f2_no W n HW1.out)⟩
            case measure => (try simp [intOf]) <;> omega
        · obtain rfl : j = -1 := by omega
          clear hj hj1 hj2
          obtain ⟨v5, rfl⟩ : ∃ v5 : World, v5 = wr := ⟨_, rfl⟩
          go_wp2_with fail
          refine (dry_up S.out.pad (by show (0 : Int) < 1000000000; omega) rfl (by show ¬ (0 : Int) = 1; omega)).mono ?_
          rintro e v6 ⟨rfl, hp, ho⟩
          have S6 := Lib.hid ((S.out.next hp ho h1 h2 (by omega) (by omega)).eq (f3_start W))
          have HZ := Lib.hid (f3_wet0 W)
          clear hp ho S
          go_wp2_with fail
          go_loopw [9, 10] (fun c i wr => ∃ j : Int, -1 ≤ j ∧ j ≤ 7 ∧ i = .int .i64 j ∧ c = .int .i64 (wetN (st (f3 W j)).l) ∧ Kst w wr g h f (st (f3 W j))) (fun _ i _ => (intOf i + 1).toNat)
          case atStart => exact ⟨7, by omega, by omega, rfl, by rw [HZ.out]; rfl, S6.out⟩
          case round =>
            obtain ⟨j, hj1, hj2, rfl, rfl, s⟩ := hrel
            have S := Lib.hid s
            clear s S6
            by_cases hj : 0 ≤ j
            · obtain ⟨n, rfl⟩ : ∃ n : Nat, j = n := ⟨j.toNat, by omega⟩
              have hle := wetN_le (st (f3 W n)).l
              rw [st_len] at hle
              have wetcase : W n = false → Hid (wetN (st (f3 W ((n : Int) - 1))).l = wetN (st (f3 W n)).l + 1) := fun hw => Lib.hid (f3_wet W n (by omega) hw)
              have drycase : W n = true → Hid (st (f3 W n) = st (f3 W ((n : Int) - 1))) := fun hw => Lib.hid (f3_no W n hw)
              by_cases hn : n < len0
              · obtain ⟨ad, rfl, _, cb⟩ := (HBS.out.below S.out.bel).at_ hn
                cases hwn : bs.getD n false with
                | true =>
                  have hw1 : W n = true := by rw [HWW.out]; exact hwn
                  have HD := drycase hw1
                  rw [hwn] at cb
                  clear hwn wetcase drycase hw1
                  go_wp2_with fail
                  go_roundw
                  case rel => exact ⟨(n : Int) - 1, by omega, by omega, by first | rfl | go_num, by rw [← HD.out], S.out.eq HD.out⟩
                  case measure => (try simp [intOf]) <;> omega
                | false =>
                  have hw1 : W n = false := by rw [HWW.out]; exact hwn
                  have HD := wetcase hw1
                  have HW1 := Lib.hid hw1
                  rw [hwn] at cb
                  clear hwn wetcase drycase hw1
                  generalize hm : wetN (st (f3 W n)).l = m at *
                  clear hm
                  go_wp2_with (refine step_loadG 26 _ f 0 (bArr fullB) rfl rfl rfl S.out.full.all _ Try.underlying26 rfl 48 Try.size26 (bArr_size fullB_len) ?_)
                  refine (ink_put n fullB 0 S.out.pad (by show (0 : Int) < 1000000000; omega) rfl (by rw [st_len]; omega) (f3_at W n (by omega) HW1.out) fullB_len fullB_bytes rfl).mono ?_
                  rintro e v7 ⟨rfl, hp, ho⟩
                  have S7 := Lib.hid ((S.out.next hp ho h1 h2 (by omega) (by omega)).eq (f3_yes W n (by omega) HW1.out))
                  clear hp ho S cb
                  go_wp2_with fail
                  go_roundw
                  case rel => exact ⟨(n : Int) - 1, by omega, by omega, by first | rfl | go_num, by rw [HD.out]; first | rfl | go_num, S7.out⟩
                  case measure => (try simp [intOf]) <;> omega
              · have hw1 : W n = false := by rw [HWW.out]; show bs.getD n false = false; rw [List.getD, List.getElem?_eq_none (by rw [HBL.out]; omega)]; rfl
                have HD := wetcase hw1
                have HW1 := Lib.hid hw1
                clear wetcase drycase hw1
                generalize hm : wetN (st (f3 W n)).l = m at *
                clear hm
                go_wp2_with (refine step_loadG 26 _ f 0 (bArr fullB) rfl rfl rfl S.out.full.all _ Try.underlying26 rfl 48 Try.size26 (bArr_size fullB_len) ?_)
                refine (ink_put n fullB 0 S.out.pad (by show (0 : Int) < 1000000000; omega) rfl (by rw [st_len]; omega) (f3_at W n (by omega) HW1.out) fullB_len fullB_bytes rfl).mono ?_
                rintro e v7 ⟨rfl, hp, ho⟩
                have S7 := Lib.hid ((S.out.next hp ho h1 h2 (by omega) (by omega)).eq (f3_yes W n (by omega) HW1.out))
                clear hp ho S
                go_wp2_with fail
                go_roundw
                case rel => exact ⟨(n : Int) - 1, by omega, by omega, by first | rfl | go_num, by rw [HD.out]; first | rfl | go_num, S7.out⟩
                case measure => (try simp [intOf]) <;> omega
            · obtain rfl : j = -1 := by omega
              clear hj hj1 hj2
              obtain ⟨v8, rfl⟩ : ∃ v8 : World, v8 = wr := ⟨_, rfl⟩
              have hpost : wetN (st (f3 W (-1))).l = wetN (st (f3 W (-1))).l := rfl
              clear hpost
              go_wp2_with fail
              refine (wet_any S.out.pad).mono ?_
              rintro e v9 ⟨rfl, hb⟩
              have S9 := Lib.hid (S.out.same hb)
              have HK9 := Lib.hid (HK.out.below S9.out.bel)
              have hs9 : w.heap.size ≤ v9.heap.size := S9.out.bel.size
              clear hb S
              go_wp2_with fail
              refine (drop_any S9.out.pad (by show (0 : Int) < 1000000000; omega) a1 len1 cap1 w.heap.size keep (fun w' ho => ho.nums HK9.out h1 h2 hs9) hwf (by omega)).mono ?_
              rintro e va ⟨rfl, hp, ho⟩
              have SA := Lib.hid (S9.out.next hp ho h1 h2 (by omega) (by omega))
              clear hp ho S9 HK9 hs9
              go_wp2_with fail
              refine (mend_any SA.out.pad).mono ?_
              rintro e vb ⟨rfl, hp, ho⟩
              have SB := Lib.hid (show Kst w vb g h f (dropped W keep) from SA.out.next hp ho h1 h2 (by omega) (by omega))
              clear hp ho SA
              go_wp2_with fail
              go_loopw [11, 12] (fun c i wr => ∃ t : Nat, t ≤ 8 ∧ i = .int .i64 t ∧ c = .int .i64 (wetN ((fin W).take t)) ∧ Kst w wr g h f (dropped W keep)) (fun _ i _ => 8 - (intOf i).toNat)
              case atStart => exact ⟨0, by omega, rfl, rfl, SB.out⟩
              case round =>
                obtain ⟨t, ht, rfl, rfl, s⟩ := hrel
                have S := Lib.hid s
                clear s SB
                by_cases hlt : t < 8
                · by_cases hn : t < len0
                  · obtain ⟨ad, rfl, _, cb⟩ := (HBS.out.below S.out.bel).at_ hn
                    cases hwn : bs.getD t false with
                    | true =>
                      have HW1 := Lib.hid (show W t = true by rw [HWW.out]; exact hwn)
                      rw [hwn] at cb
                      clear hwn
                      obtain ⟨ht1, hn1⟩ := dropped_dry W keep t hlt HW1.out
                      have HT := Lib.hid ht1
                      have HN := Lib.hid hn1
                      clear ht1 hn1
                      generalize wetN ((fin W).take t) = m at *
                      have HLL := Lib.hid fullB_len
                      go_wp2_with fail
                      refine (leaf_any t S.out.pad).mono ?_
                      rintro e vc ⟨rfl, hb⟩
                      have SC := Lib.hid (S.out.same hb)
                      clear hb S
                      rw [HT.out]
                      have SD := Lib.hid (SC.out.same (w26_below vc (fullB)))
                      have hX := w26_blk vc (fullB) HLL.out
                      clear SC
                      generalize hW : w26 vc (fullB) = vd at *
                      have HW := Lib.hid hW
                      clear hW
                      have c0 : vd.cell? ⟨vc.heap.size, 0, none⟩ = some (.int .u8 1) := by rw [hX.cell]; rfl
                      have c47 : vd.cell? ⟨vc.heap.size, 47, none⟩ = some (.int .u8 48) := by rw [hX.cell]; rfl
                      clear hX
                      dsimp only
                      go_wp2_with (first | (with_reducible refine step_alloc 26 zArr Try.zero26 rfl rfl ?_) | (refine step_put26 (w := vc) (fullB) _ _ rfl rfl rfl rfl rfl HLL.out HW.out ?_))
                      go_roundw
                      case rel => first | exact ⟨t + 1, by omega, by first | rfl | go_num, (by rw [HN.out]), SD.out⟩ | ((repeat apply Exists.intro); exact ⟨⟨t + 1, by omega, by first | rfl | go_num, (by rw [HN.out]), SD.out⟩, rfl⟩)
                      case measure => (try simp [intOf]) <;> omega
                    | false =>
                      have HW1 := Lib.hid (show W t = false by rw [HWW.out]; exact hwn)
                      rw [hwn] at cb
                      clear hwn
                      obtain ⟨ht1, hn1⟩ := dropped_wet W keep t hlt HW1.out
                      have hle := wetN_le ((fin W).take t)
                      rw [List.length_take, fin_len] at hle
                      have HN := Lib.hid hn1
                      have HT0 := Lib.hid ht1
                      clear ht1 hn1
                      generalize hm : wetN ((fin W).take t) = m at *
                      clear hm
                      go_upto_if 104 with (fail)
                      go_cut [11, 13] (fun c k wx => ∃ (K : Nat) (L : List Int) (ib : Bool), k = .int .i64 K ∧ c = .int .i64 (wetN ((fin W).take (t + 1))) ∧ wx = wr ∧ (dropped W keep).tell t = (L, ib) ∧ KL K L ib)
                      case first =>
                        by_cases hm1 : m < len1
                        · obtain ⟨ae, rfl, _, ck⟩ := (HK.out.below S.out.bel).at_ hm1
                          have hke : keepAt keep m = keep.getD m 0 := rfl
                          rw [← hke] at ck
                          clear hke
                          generalize keepAt keep m = v at *
                          obtain ⟨k, hk⟩ : ∃ k : Nat, KK v k := by
                            unfold KK
                            exact ⟨(max 0 (min v 48)).toNat, by omega⟩
                          rcases hk with ⟨g1, rfl⟩ | ⟨rfl, rfl⟩ | ⟨g1, g2, rfl⟩ | ⟨rfl, rfl⟩ | ⟨g1, rfl⟩
                          · have hT1 := HT0.out
                            rw [if_pos (by omega)] at hT1
                            have HT := Lib.hid hT1
                            clear hT1 HT0
                            go_wp2_with fail
                            go_meet
                            exact ⟨0, zb, false, rfl, by rw [HN.out]; try rfl, rfl, HT.out, .inl ⟨rfl, rfl, rfl⟩⟩
                          · have hT1 := HT0.out
                            rw [if_pos (by omega)] at hT1
                            have HT := Lib.hid hT1
                            clear hT1 HT0
                            go_wp2_with fail
                            go_meet
                            exact ⟨0, zb, false, rfl, by rw [HN.out]; try rfl, rfl, HT.out, .inl ⟨rfl, rfl, rfl⟩⟩
                          · have hT1 := HT0.out
                            rw [if_neg (by omega), Int.toNat_natCast] at hT1
                            have HT := Lib.hid hT1
                            clear hT1 HT0
                            go_wp2_with fail
                            go_meet
                            exact ⟨k, _, true, rfl, by rw [HN.out]; try rfl, rfl, HT.out, .inr (.inr ⟨by omega, by omega, rfl, rfl⟩)⟩
                          · have hT1 := HT0.out
                            rw [if_neg (by omega), keptB_all _ (by omega)] at hT1
                            have HT := Lib.hid hT1
                            clear hT1 HT0
                            go_wp2_with fail
                            go_meet
                            exact ⟨48, fullB, true, rfl, by rw [HN.out]; try rfl, rfl, HT.out, .inr (.inl ⟨rfl, rfl, rfl⟩)⟩
                          · have hT1 := HT0.out
                            rw [if_neg (by omega), keptB_all _ (by omega)] at hT1
                            have HT := Lib.hid hT1
                            clear hT1 HT0
                            go_wp2_with fail
                            go_meet
                            exact ⟨48, fullB, true, rfl, by rw [HN.out]; try rfl, rfl, HT.out, .inr (.inl ⟨rfl, rfl, rfl⟩)⟩
                        · have hT1 := HT0.out
                          rw [keepAt_lt (by rw [HKL.out]; exact hm1), if_pos (by omega)] at hT1
                          have HT := Lib.hid hT1
                          clear hT1 HT0
                          go_wp2_with fail
                          go_meet
                          exact ⟨0, zb, false, rfl, by rw [HN.out]; try rfl, rfl, HT.out, .inl ⟨rfl, rfl, rfl⟩⟩
                      case rest =>
                        obtain ⟨k, L, ib, rfl, rfl, rfl, ht1, hkl⟩ := hcut
                        have HT := Lib.hid ht1
                        clear ht1 HT0
                        rcases hkl with ⟨rfl, rfl, rfl⟩ | ⟨rfl, rfl, rfl⟩ | ⟨g1, g2, rfl, rfl⟩
                        · try rw [show ((0 : Nat) : Int) = 0 from rfl]
                          have HLL := Lib.hid zb_len
                          go_wp2_with fail
                          refine (leaf_any t S.out.pad).mono ?_
                          rintro e vc ⟨rfl, hb⟩
                          have SC := Lib.hid (S.out.same hb)
                          clear hb S
                          rw [HT.out]
                          have SD := Lib.hid (SC.out.same (w26_below vc (zb)))
                          have hX := w26_blk vc (zb) HLL.out
                          clear SC
                          generalize hW : w26 vc (zb) = vd at *
                          have HW := Lib.hid hW
                          clear hW
                          clear hX
                          dsimp only
                          go_upto_region 41 with (first | (with_reducible refine step_alloc 26 zArr Try.zero26 rfl rfl ?_) | (refine step_put26 (w := vc) (zb) _ _ rfl rfl rfl rfl rfl HLL.out HW.out ?_))
                          go_step
                          iterate 21 (first | go_big_want | go_step | go_upon | go_back | go_skip)
                          with_reducible refine wpList_skip 21 ?_ ?_
                          · kernel_rfl
                          intro a' ha'
                          simp only [List.take_succ_cons, List.take_zero, skipPut] at ha'
                          simp [go_sem, Act.put] at ha'
                          simp only [List.drop_succ_cons, List.drop_zero]
                          subst ha'
                          go_wp2_with fail
                          go_roundw
                          case rel => first | exact ⟨t + 1, by omega, by first | rfl | go_num, rfl, SD.out⟩ | ((repeat apply Exists.intro); exact ⟨⟨t + 1, by omega, by first | rfl | go_num, rfl, SD.out⟩, rfl⟩)
                          case measure => (try simp [intOf]) <;> omega
                        · have HLL := Lib.hid fullB_len
                          go_wp2_with fail
                          refine (leaf_any t S.out.pad).mono ?_
                          rintro e vc ⟨rfl, hb⟩
                          have SC := Lib.hid (S.out.same hb)
                          clear hb S
                          rw [HT.out]
                          have SD := Lib.hid (SC.out.same (w26_below vc (fullB)))
                          have hX := w26_blk vc (fullB) HLL.out
                          clear SC
                          generalize hW : w26 vc (fullB) = vd at *
                          have HW := Lib.hid hW
                          clear hW
                          have c0 : vd.cell? ⟨vc.heap.size, 0, none⟩ = some (.int .u8 1) := by rw [hX.cell]; rfl
                          have c47 : vd.cell? ⟨vc.heap.size, 47, none⟩ = some (.int .u8 48) := by rw [hX.cell]; rfl
                          clear hX
                          dsimp only
                          go_wp2_with (first | (with_reducible refine step_alloc 26 zArr Try.zero26 rfl rfl ?_) | (refine step_put26 (w := vc) (fullB) _ _ rfl rfl rfl rfl rfl HLL.out HW.out ?_))
                          go_roundw
                          case rel => first | exact ⟨t + 1, by omega, by first | rfl | go_num, rfl, SD.out⟩ | ((repeat apply Exists.intro); exact ⟨⟨t + 1, by omega, by first | rfl | go_num, rfl, SD.out⟩, rfl⟩)
                          case measure => (try simp [intOf]) <;> omega
                        · have HLL := Lib.hid (keptB_len k)
                          have hk1 : 1 ≤ k := by omega
                          have C0 := Lib.hid (keptB_get0 k hk1)
                          have C47 := Lib.hid (keptB_get k 47 (by omega) (by omega))
                          have CK := Lib.hid (keptB_get k k (by omega) g2)
                          generalize hL : fullB.take k ++ List.replicate (48 - k) 255 = L at *
                          clear hL
                          have hkz : ((k : Int) == 48) = false := by simp; omega
                          have hkd : decide ((0 : Int) < (k : Int)) = true := decide_eq_true (by omega)
                          have hkd2 : decide (0 < k) = true := decide_eq_true (by omega)
                          have hk0 : 0 < k := by omega
                          have hkz2 : (k == 48) = false := by simp; omega
                          go_wp2_with fail
                          refine (leaf_any t S.out.pad).mono ?_
                          rintro e vc ⟨rfl, hb⟩
                          have SC := Lib.hid (S.out.same hb)
                          clear hb S
                          rw [HT.out]
                          have SD := Lib.hid (SC.out.same (w26_below vc (L)))
                          have hX := w26_blk vc (L) HLL.out
                          clear SC
                          generalize hW : w26 vc (L) = vd at *
                          have HW := Lib.hid hW
                          clear hW
                          have c0 : vd.cell? ⟨vc.heap.size, 0, none⟩ = some (.int .u8 1) := by rw [hX.cell, bArr_get _ _ (by rw [HLL.out]; omega), C0.out]
                          have c47 : vd.cell? ⟨vc.heap.size, 47, none⟩ = some (.int .u8 255) := by rw [hX.cell, bArr_get _ _ (by rw [HLL.out]; omega), C47.out]
                          have ckk : vd.cell? ⟨vc.heap.size, k, none⟩ = some (.int .u8 255) := by rw [hX.cell, bArr_get _ _ (by rw [HLL.out]; omega), CK.out]
                          clear hX
                          dsimp only
                          go_wp2_with (first | (with_reducible refine step_alloc 26 zArr Try.zero26 rfl rfl ?_) | (refine step_put26 (w := vc) (L) _ _ rfl rfl rfl rfl rfl HLL.out HW.out ?_))
                          go_roundw
                          case rel => first | exact ⟨t + 1, by omega, by first | rfl | go_num, rfl, SD.out⟩ | ((repeat apply Exists.intro); exact ⟨⟨t + 1, by omega, by first | rfl | go_num, rfl, SD.out⟩, rfl⟩)
                          case measure => (try simp [intOf]) <;> omega
                  · have HW1 := Lib.hid (show W t = false by rw [HWW.out]; show bs.getD t false = false; rw [List.getD, List.getElem?_eq_none (by rw [HBL.out]; omega)]; rfl)
                    obtain ⟨ht1, hn1⟩ := dropped_wet W keep t hlt HW1.out
                    have hle := wetN_le ((fin W).take t)
                    rw [List.length_take, fin_len] at hle
                    have HN := Lib.hid hn1
                    have HT0 := Lib.hid ht1
                    clear ht1 hn1
                    generalize hm : wetN ((fin W).take t) = m at *
                    clear hm
                    go_upto_if 104 with (fail)
                    go_cut [11, 13] (fun c k wx => ∃ (K : Nat) (L : List Int) (ib : Bool), k = .int .i64 K ∧ c = .int .i64 (wetN ((fin W).take (t + 1))) ∧ wx = wr ∧ (dropped W keep).tell t = (L, ib) ∧ KL K L ib)
                    case first =>
                      by_cases hm1 : m < len1
                      · obtain ⟨ae, rfl, _, ck⟩ := (HK.out.below S.out.bel).at_ hm1
                        have hke : keepAt keep m = keep.getD m 0 := rfl
                        rw [← hke] at ck
                        clear hke
                        generalize keepAt keep m = v at *
                        obtain ⟨k, hk⟩ : ∃ k : Nat, KK v k := by
                          unfold KK
                          exact ⟨(max 0 (min v 48)).toNat, by omega⟩
                        rcases hk with ⟨g1, rfl⟩ | ⟨rfl, rfl⟩ | ⟨g1, g2, rfl⟩ | ⟨rfl, rfl⟩ | ⟨g1, rfl⟩
                        · have hT1 := HT0.out
                          rw [if_pos (by omega)] at hT1
                          have HT := Lib.hid hT1
                          clear hT1 HT0
                          go_wp2_with fail
                          go_meet
                          exact ⟨0, zb, false, rfl, by rw [HN.out]; try rfl, rfl, HT.out, .inl ⟨rfl, rfl, rfl⟩⟩
                        · have hT1 := HT0.out
                          rw [if_pos (by omega)] at hT1
                          have HT := Lib.hid hT1
                          clear hT1 HT0
                          go_wp2_with fail
                          go_meet
                          exact ⟨0, zb, false, rfl, by rw [HN.out]; try rfl, rfl, HT.out, .inl ⟨rfl, rfl, rfl⟩⟩
                        · have hT1 := HT0.out
                          rw [if_neg (by omega), Int.toNat_natCast] at hT1
                          have HT := Lib.hid hT1
                          clear hT1 HT0
                          go_wp2_with fail
                          go_meet
                          exact ⟨k, _, true, rfl, by rw [HN.out]; try rfl, rfl, HT.out, .inr (.inr ⟨by omega, by omega, rfl, rfl⟩)⟩
                        · have hT1 := HT0.out
                          rw [if_neg (by omega), keptB_all _ (by omega)] at hT1
                          have HT := Lib.hid hT1
                          clear hT1 HT0
                          go_wp2_with fail
                          go_meet
                          exact ⟨48, fullB, true, rfl, by rw [HN.out]; try rfl, rfl, HT.out, .inr (.inl ⟨rfl, rfl, rfl⟩)⟩
                        · have hT1 := HT0.out
                          rw [if_neg (by omega), keptB_all _ (by omega)] at hT1
                          have HT := Lib.hid hT1
                          clear hT1 HT0
                          go_wp2_with fail
                          go_meet
                          exact ⟨48, fullB, true, rfl, by rw [HN.out]; try rfl, rfl, HT.out, .inr (.inl ⟨rfl, rfl, rfl⟩)⟩
                      · have hT1 := HT0.out
                        rw [keepAt_lt (by rw [HKL.out]; exact hm1), if_pos (by omega)] at hT1
                        have HT := Lib.hid hT1
                        clear hT1 HT0
                        go_wp2_with fail
                        go_meet
                        exact ⟨0, zb, false, rfl, by rw [HN.out]; try rfl, rfl, HT.out, .inl ⟨rfl, rfl, rfl⟩⟩
                    case rest =>
                      obtain ⟨k, L, ib, rfl, rfl, rfl, ht1, hkl⟩ := hcut
                      have HT := Lib.hid ht1
                      clear ht1 HT0
                      rcases hkl with ⟨rfl, rfl, rfl⟩ | ⟨rfl, rfl, rfl⟩ | ⟨g1, g2, rfl, rfl⟩
                      · try rw [show ((0 : Nat) : Int) = 0 from rfl]
                        have HLL := Lib.hid zb_len
                        go_wp2_with fail
                        refine (leaf_any t S.out.pad).mono ?_
                        rintro e vc ⟨rfl, hb⟩
                        have SC := Lib.hid (S.out.same hb)
                        clear hb S
                        rw [HT.out]
                        have SD := Lib.hid (SC.out.same (w26_below vc (zb)))
                        have hX := w26_blk vc (zb) HLL.out
                        clear SC
                        generalize hW : w26 vc (zb) = vd at *
                        have HW := Lib.hid hW
                        clear hW
                        clear hX
                        dsimp only
                        go_upto_region 41 with (first | (with_reducible refine step_alloc 26 zArr Try.zero26 rfl rfl ?_) | (refine step_put26 (w := vc) (zb) _ _ rfl rfl rfl rfl rfl HLL.out HW.out ?_))
                        go_step
                        iterate 21 (first | go_big_want | go_step | go_upon | go_back | go_skip)
                        with_reducible refine wpList_skip 21 ?_ ?_
                        · kernel_rfl
                        intro a' ha'
                        simp only [List.take_succ_cons, List.take_zero, skipPut] at ha'
                        simp [go_sem, Act.put] at ha'
                        simp only [List.drop_succ_cons, List.drop_zero]
                        subst ha'
                        go_wp2_with fail
                        go_roundw
                        case rel => first | exact ⟨t + 1, by omega, by first | rfl | go_num, rfl, SD.out⟩ | ((repeat apply Exists.intro); exact ⟨⟨t + 1, by omega, by first | rfl | go_num, rfl, SD.out⟩, rfl⟩)
                        case measure => (try simp [intOf]) <;> omega
                      · have HLL := Lib.hid fullB_len
                        go_wp2_with fail
                        refine (leaf_any t S.out.pad).mono ?_
                        rintro e vc ⟨rfl, hb⟩
                        have SC := Lib.hid (S.out.same hb)
                        clear hb S
                        rw [HT.out]
                        have SD := Lib.hid (SC.out.same (w26_below vc (fullB)))
                        have hX := w26_blk vc (fullB) HLL.out
                        clear SC
                        generalize hW : w26 vc (fullB) = vd at *
                        have HW := Lib.hid hW
                        clear hW
                        have c0 : vd.cell? ⟨vc.heap.size, 0, none⟩ = some (.int .u8 1) := by rw [hX.cell]; rfl
                        have c47 : vd.cell? ⟨vc.heap.size, 47, none⟩ = some (.int .u8 48) := by rw [hX.cell]; rfl
                        clear hX
                        dsimp only
                        go_wp2_with (first | (with_reducible refine step_alloc 26 zArr Try.zero26 rfl rfl ?_) | (refine step_put26 (w := vc) (fullB) _ _ rfl rfl rfl rfl rfl HLL.out HW.out ?_))
                        go_roundw
                        case rel => first | exact ⟨t + 1, by omega, by first | rfl | go_num, rfl, SD.out⟩ | ((repeat apply Exists.intro); exact ⟨⟨t + 1, by omega, by first | rfl | go_num, rfl, SD.out⟩, rfl⟩)
                        case measure => (try simp [intOf]) <;> omega
                      · have HLL := Lib.hid (keptB_len k)
                        have hk1 : 1 ≤ k := by omega
                        have C0 := Lib.hid (keptB_get0 k hk1)
                        have C47 := Lib.hid (keptB_get k 47 (by omega) (by omega))
                        have CK := Lib.hid (keptB_get k k (by omega) g2)
                        generalize hL : fullB.take k ++ List.replicate (48 - k) 255 = L at *
                        clear hL
                        have hkz : ((k : Int) == 48) = false := by simp; omega
                        have hkd : decide ((0 : Int) < (k : Int)) = true := decide_eq_true (by omega)
                        have hkd2 : decide (0 < k) = true := decide_eq_true (by omega)
                        have hk0 : 0 < k := by omega
                        have hkz2 : (k == 48) = false := by simp; omega
                        go_wp2_with fail
                        refine (leaf_any t S.out.pad).mono ?_
                        rintro e vc ⟨rfl, hb⟩
                        have SC := Lib.hid (S.out.same hb)
                        clear hb S
                        rw [HT.out]
                        have SD := Lib.hid (SC.out.same (w26_below vc (L)))
                        have hX := w26_blk vc (L) HLL.out
                        clear SC
                        generalize hW : w26 vc (L) = vd at *
                        have HW := Lib.hid hW
                        clear hW
                        have c0 : vd.cell? ⟨vc.heap.size, 0, none⟩ = some (.int .u8 1) := by rw [hX.cell, bArr_get _ _ (by rw [HLL.out]; omega), C0.out]
                        have c47 : vd.cell? ⟨vc.heap.size, 47, none⟩ = some (.int .u8 255) := by rw [hX.cell, bArr_get _ _ (by rw [HLL.out]; omega), C47.out]
                        have ckk : vd.cell? ⟨vc.heap.size, k, none⟩ = some (.int .u8 255) := by rw [hX.cell, bArr_get _ _ (by rw [HLL.out]; omega), CK.out]
                        clear hX
                        dsimp only
                        go_wp2_with (first | (with_reducible refine step_alloc 26 zArr Try.zero26 rfl rfl ?_) | (refine step_put26 (w := vc) (L) _ _ rfl rfl rfl rfl rfl HLL.out HW.out ?_))
                        go_roundw
                        case rel => first | exact ⟨t + 1, by omega, by first | rfl | go_num, rfl, SD.out⟩ | ((repeat apply Exists.intro); exact ⟨⟨t + 1, by omega, by first | rfl | go_num, rfl, SD.out⟩, rfl⟩)
                        case measure => (try simp [intOf]) <;> omega
                · obtain rfl : t = 8 := by omega
                  clear hlt
                  go_wp2_with fail
                  go_ret
                  exact ⟨rfl, S.out.bel⟩

set_option maxRecDepth 100000 in
theorem leafKeeps_walk (a0 : Option Addr) (len0 cap0 : Nat) (bs : List Bool) (a1 : Option Addr) (len1 cap1 : Nat) (z1 : List Int) (w : World) (w0 : BoolRow w a0 len0 cap0 bs) (w1 : IsRow .i64 w a1 len1 cap1 z1) :
    Calls Try.prog 4 #[.slice a0 len0 cap0, .slice a1 len1 cap1] w fun e w' => e = .returned (.bool true) ∧ Below w.heap.size w w' := by
  by_cases hl : 20 < len1
  · have hd : decide (20 < (len1 : Int)) = true := decide_eq_true (by omega)
    clear w0 w1
    go_enter Try.func4, Try.ntmps4
    go_wp2_with fail
    refine (awake23 _).mono ?_
    rintro e v2 ⟨rfl, hb⟩
    go_wp2_with fail
    go_ret
    exact ⟨rfl, hb⟩
  · exact leafKeeps_core a0 len0 cap0 bs a1 len1 cap1 _ w w0.1 w0.2 w1.nums w1.wf_ (by omega)
end Go.Proofs.Ytdjkkpefljapcaa
