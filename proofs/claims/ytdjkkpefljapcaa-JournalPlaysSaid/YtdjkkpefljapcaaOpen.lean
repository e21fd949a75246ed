/- The contract of journal.Open at a pad that is not down, and has no snag. -/
import Derived.Test.YtdjkkpefljapcaaRecd
import Derived.Test.YtdjkkpefljapcaaAdd
namespace Go.Proofs.Ytdjkkpefljapcaa
open Go.RowKit
set_option linter.unusedVariables false
set_option linter.unusedSimpArgs false

/-- From leaf n on these records stand, up to leaf m; behind them none does. -/
def Parse (l : List Lf) : Nat → List (List Int) → Nat → Prop
  | n, [], m => n = m ∧ recL n true (l.drop n) = none
  | n, b :: rs, m => ∃ n1, recL n true (l.drop n) = some (b, n1) ∧ Parse l n1 rs m
theorem recL_bounds : ∀ (xs : List Lf) (n : Nat) (fst : Bool) (b : List Int) (m : Nat), recL n fst xs = some (b, m) → n < m ∧ m ≤ n + xs.length
  | [], n, fst, b, m, h => by cases h
  | x :: xs, n, fst, b, m, h => by
    by_cases h1 : x.is ≠ 0 ∧ good n x.b ∧ decide (x.b.getD 4 0 % 2 = 1) = fst
    · by_cases h2 : 2 ≤ x.b.getD 4 0
      · rw [recL_last h1 h2] at h
        injection h with h
        injection h with _ h
        simp
        omega
      · rw [recL_more h1 h2] at h
        cases hr : recL (n + 1) false xs with
        | none => rw [hr] at h; cases h
        | some y =>
          rw [hr] at h
          injection h with h
          injection h with _ h
          have := recL_bounds xs (n + 1) false y.1 y.2 hr
          simp
          omega
    · rw [recL_no h1] at h
      cases h
theorem recL_drop {l : List Lf} {n m : Nat} {fst : Bool} {b : List Int} (h : recL n fst (l.drop n) = some (b, m)) : n < m ∧ m ≤ l.length := by
  have hb := recL_bounds _ _ _ _ _ h
  rw [List.length_drop] at hb
  by_cases hn : n ≤ l.length
  · omega
  · rw [List.drop_of_length_le (by omega)] at h
    cases h

def clr (x : Lf) : Lf := if x.is = 0 then x else Lf.zero
/-- Leaves from m up to k are blank. -/
def clL (l : List Lf) (m k : Nat) : List Lf := l.mapIdx fun i x => if m ≤ i ∧ i < k then clr x else x
theorem clL_len (l : List Lf) (m k : Nat) : (clL l m k).length = l.length := by simp [clL]
theorem clL_start (l : List Lf) (m : Nat) : clL l m m = l := by
  unfold clL
  apply List.ext_getElem
  · simp
  · intro i h1 h2
    simp
    omega
theorem clL_at (l : List Lf) (m k : Nat) : (clL l m k).getD k Lf.zero = l.getD k Lf.zero := by
  unfold clL
  simp only [List.getD, List.getElem?_mapIdx]
  cases l[k]? <;> simp
theorem clL_set {l : List Lf} {m k : Nat} (h : m ≤ k) (hk : k < l.length) (hx : (l.getD k Lf.zero).is ≠ 0) : (clL l m k).set k Lf.zero = clL l m (k + 1) := by
  unfold clL
  apply List.ext_getElem
  · simp
  · intro i h1 h2
    have e : l.getD k Lf.zero = l[k] := by simp [List.getD, hk]
    rw [e] at hx
    rw [List.getElem_set]
    by_cases hi : k = i
    · subst hi
      simp [h, clr, hx]
    · simp only [hi, if_false, List.getElem_mapIdx]
      by_cases h3 : m ≤ i ∧ i < k
      · rw [if_pos h3, if_pos (by omega)]
      · rw [if_neg h3, if_neg (by omega)]
theorem clL_same {l : List Lf} {m k : Nat} (hx : (l.getD k Lf.zero).is = 0) : clL l m k = clL l m (k + 1) := by
  unfold clL
  apply List.ext_getElem
  · simp
  · intro i h1 h2
    simp only [List.getElem_mapIdx]
    have hl : i < l.length := by simpa using h1
    by_cases hi : i = k
    · subst hi
      have e : l.getD i Lf.zero = l[i] := by simp [List.getD, hl]
      rw [e] at hx
      rw [if_neg (by omega)]
      split
      · unfold clr; rw [if_pos hx]
      · rfl
    · by_cases h3 : m ≤ i ∧ i < k
      · rw [if_pos h3, if_pos (by omega)]
      · rw [if_neg h3, if_neg (by omega)]

def usedOf : Option Value → Nat
  | some (.int _ k) => k.toNat
  | _ => 0
def openP (p : Pd) (m : Nat) : Pd := { p.dry with l := clL p.dry.l m p.dry.l.length }

/-- What Open hands back. -/
def OpenOut (w : World) (g h : Nat) (p : Pd) (rs : List (List Int)) (m : Nat) (e : Ending) (w' : World) : Prop :=
  ∃ j v, e = .returned (.tuple #[.pointer (some ⟨j, 0, none⟩), .int .i64 0]) ∧ PadAt w' g h (openP p m) ∧ JouAt w' w.heap.size g j v ⟨p.falls, rs, m⟩ ∧ w.heap.size ≤ j ∧ Off g h w w'

theorem Try.results36s : Try.f36.results = #[.tmp 2, .tmp 3] := by kernel_rfl

set_option maxRecDepth 100000 in
set_option maxHeartbeats 4000000 in
theorem open_any {w : World} {g h : Nat} {p : Pd} (rs : List (List Int)) (m : Nat) (hp : PadAt w g h p) (hd : p.down = false) (hs : p.snag = 0) (hf : p.falls < 1000000000) (hps : Parse p.dry.l 0 rs m) :
    Calls Try.prog 36 #[.pointer (some ⟨g, 0, none⟩)] w fun e w' => OpenOut w g h p rs m e w' := by
  have hpl := hp.len
  have hdl : p.dry.l.length = p.l.length := eachL_length _ _ _
  have HP := Lib.hid hp
  have HPS := Lib.hid hps
  have hfr := hp.falls
  clear hp hps
  go_enter Try.func36, Try.ntmps36
  go_wp2_with fail
  refine (down_is HP.out hd).mono ?_
  rintro e w1 ⟨rfl, rfl⟩
  go_wp2_with fail
  refine (falls_is HP.out rfl).mono ?_
  rintro e w1 ⟨rfl, rfl⟩
  have HB := Lib.hid (Blk.new w 87 #[.pointer (some ⟨g, 0, none⟩), .int .i64 p.falls, .slice none 0 0, .int .i64 0])
  have HL := Lib.hid ((Below.refl w.heap.size w).alloc (Nat.le_refl _) (.cells #[.pointer (some ⟨g, 0, none⟩), .int .i64 p.falls, .slice none 0 0, .int .i64 0] 87))
  have HP1 := Lib.hid (HP.out.below HL.out)
  go_wp2_with fail
  have hst : p.stroke = p := if_pos hs
  have hdry := dry_up HP1.out hf hd (by omega)
  rw [hst] at hdry
  refine hdry.mono ?_
  clear hdry hst
  rintro e w2 ⟨rfl, hp2, ho2⟩
  have hgh := HP.out.lt
  have HGH := Lib.hid hgh
  have HP2 := Lib.hid hp2
  have HO2 := Lib.hid (show Off g h w w2 from (Off.of_below HL.out).trans ho2)
  have HJ2 := Lib.hid (show JouAt w2 w.heap.size g w.heap.size (.slice none 0 0) ⟨p.falls, [], 0⟩ from ⟨ho2.blk HB.out (by omega) (by omega), Recs.nil _ _, by show 0 ≤ p.falls ∧ p.falls ≤ 1000000000; omega, by simp, by simp⟩)
  clear hp2 ho2 HB HL HP1
  obtain ⟨i0, hi, hz0, hz1, hz2⟩ := info_parts Try.info44
  go_wp2_with fail
  go_loopw [7] (fun _ wr => ∃ (done rest : List (List Int)) (n : Nat) (v : Value), n ≤ p.l.length ∧ rs = done ++ rest ∧ Parse p.dry.l n rest m ∧ JouAt wr w.heap.size g w.heap.size v ⟨p.falls, done, n⟩ ∧ PadAt wr g h p.dry ∧ Off g h w wr)
    (fun _ wr => 20001 - usedOf (wr.cell? ⟨w.heap.size, 3, none⟩))
  case atStart => exact ⟨[], rs, 0, _, Nat.zero_le _, rfl, HPS.out, HJ2.out, HP2.out, HO2.out⟩
  case round =>
    obtain ⟨done, rest, n, v, hnl, hrs, hpa, hj, hp, ho⟩ := hrel
    have e3 := hj.c3
    have hn := hj.used
    have HU := Lib.hid (show usedOf (wr.cell? ⟨w.heap.size, 3, none⟩) = n by rw [e3]; rfl)
    have HRS := Lib.hid hrs
    have HPA := Lib.hid hpa
    have HJ := Lib.hid hj
    have HP3 := Lib.hid hp
    have HO := Lib.hid ho
    clear hrs hpa hj hp ho
    go_wp2_with fail
    refine (record_any n HP3.out hn).mono ?_
    rintro e w3 ⟨⟨hno, rfl⟩ | ⟨b, n1, v6, hsome, rfl, hob⟩, hb3⟩
    · have hrest : rest = [] ∧ n = m := by
        cases rest with
        | nil => exact ⟨rfl, HPA.out.1⟩
        | cons x xs =>
          obtain ⟨n1, h1, _⟩ := HPA.out
          rw [hno] at h1
          cases h1
      obtain ⟨rfl, rfl⟩ := hrest
      have hdr : rs = done := by rw [HRS.out]; simp
      have HJ3 := Lib.hid (HJ.out.below hb3)
      have HP4 := Lib.hid (HP3.out.below hb3)
      have HO3 := Lib.hid (HO.out.trans (Off.of_below hb3))
      have e4 := HJ3.out.c3
      clear hb3 HJ HP3 HO hno HPA HRS e3
      go_wp2_with fail
      go_loopw [9] (fun i wr => ∃ k : Nat, i = .int .i64 k ∧ n ≤ k ∧ k ≤ p.l.length ∧ PadAt wr g h { p.dry with l := clL p.dry.l n k } ∧ JouAt wr w.heap.size g w.heap.size v ⟨p.falls, done, n⟩ ∧ Off g h w wr)
        (fun i _ => p.l.length - (intOf i).toNat)
      case atStart => exact ⟨n, rfl, Nat.le_refl _, hnl, by rw [clL_start]; exact HP4.out, HJ3.out, HO3.out⟩
      case round =>
        obtain ⟨k, rfl, k1, k2, hp, hj, ho⟩ := hrel
        have HPR := Lib.hid hp
        have HJR := Lib.hid hj
        have HOR := Lib.hid ho
        have hlen : ((clL p.dry.l n k).length : Int) = p.l.length := by rw [clL_len, hdl]
        clear hp hj ho HJ3 HP4 HO3 e4
        go_wp2_with fail
        refine (len_any HPR.out).mono ?_
        rintro e v1 ⟨rfl, rfl⟩
        dsimp only
        rw [hlen]
        clear hlen
        by_cases hlt : k < p.l.length
        · have hkl : k < ({ p.dry with l := clL p.dry.l n k } : Pd).l.length := by show k < (clL p.dry.l n k).length; rw [clL_len, hdl]; exact hlt
          by_cases h0 : (p.dry.l.getD k Lf.zero).is = 0
          · have h0' : (({ p.dry with l := clL p.dry.l n k } : Pd).at k).is = 0 := by show ((clL p.dry.l n k).getD k Lf.zero).is = 0; rw [clL_at]; exact h0
            have hlb := leaf_blank k HPR.out hkl h0'
            have HLB := Lib.hid hlb
            have H0 := Lib.hid h0
            clear h0 h0' hlb hkl
            go_wp2_with fail
            refine HLB.out.mono ?_
            rintro e v1 ⟨rfl, hb1⟩
            have HX := Lib.hid (hb1.trans ((w26_below v1 zb).mono hb1.size))
            clear hb1
            rw [zb_arr]
            generalize hW : w26 v1 zb = v2 at *
            have HW := Lib.hid hW
            clear hW
            have hsz := HOR.out.size
            go_wp2_with (first
              | (with_reducible refine step_alloc 26 zArr Try.zero26 rfl rfl ?_)
              | (refine step_put26 (w := v1) zb _ _ rfl rfl rfl rfl rfl zb_len HW.out ?_))
            go_roundw
            case rel => exact ⟨k + 1, by go_num, by omega, by omega, by rw [← clL_same H0.out]; exact HPR.out.below HX.out, HJR.out.below HX.out, HOR.out.trans (Off.of_below HX.out)⟩
            case measure => simp [intOf]; omega
          · have h0' : (({ p.dry with l := clL p.dry.l n k } : Pd).at k).is ≠ 0 := by show ((clL p.dry.l n k).getD k Lf.zero).is ≠ 0; rw [clL_at]; exact h0
            have hls := leaf_some k HPR.out hkl h0'
            have hok := HPR.out.ok.getD k
            obtain ⟨x, hx⟩ : ∃ x, (({ p.dry with l := clL p.dry.l n k } : Pd).at k).b = x := ⟨_, rfl⟩
            rw [hx] at hls
            have hxl : x.length = 48 := by rw [← hx]; exact hok.1
            have HXL := Lib.hid hxl
            have HLB := Lib.hid hls
            have H0 := Lib.hid h0
            have HKL := Lib.hid hkl
            clear h0 h0' hls hkl hok hx hxl
            go_wp2_with fail
            refine HLB.out.mono ?_
            rintro e v1 ⟨rfl, hb1⟩
            have HX := Lib.hid (hb1.trans ((w26_below v1 x).mono hb1.size))
            clear hb1
            generalize hW : w26 v1 x = v2 at *
            have HW := Lib.hid hW
            clear hW
            have HPR2 := Lib.hid (HPR.out.below HX.out)
            go_wp2_with (first
              | (with_reducible refine step_alloc 26 zArr Try.zero26 rfl rfl ?_)
              | (refine step_put26 (w := v1) x _ _ rfl rfl rfl rfl rfl HXL.out HW.out ?_))
            have hbl := blot_up k HPR2.out hf hd HKL.out (by show ¬ p.snag = 1; omega)
            rw [show ({ p.dry with l := clL p.dry.l n k } : Pd).stroke = { p.dry with l := clL p.dry.l n k } from if_pos hs] at hbl
            refine hbl.mono ?_
            clear hbl
            rintro e v3 ⟨rfl, hp3, ho3⟩
            have HP5 := Lib.hid hp3
            have HO5 := Lib.hid ho3
            clear hp3 ho3
            go_wp2_with fail
            go_roundw
            case rel =>
              refine ⟨k + 1, by go_num, by omega, by omega, ?_, (HJR.out.below HX.out).off HPR2.out HO5.out, (HOR.out.trans (Off.of_below HX.out)).trans HO5.out⟩
              have := HP5.out
              unfold Pd.put at this
              rw [clL_set k1 (by rw [hdl]; exact hlt) H0.out] at this
              exact this
            case measure => simp [intOf]; omega
        · obtain rfl : k = p.l.length := by omega
          go_wp2_with fail
          refine bodyPost_ret (v := .tuple #[.pointer (some ⟨w.heap.size, 0, none⟩), .int .i64 0]) (by simp [results, Try.results36s, go_sem]) rfl ⟨w.heap.size, v, rfl, ?_, ?_, Nat.le_refl _, HOR.out⟩
          · unfold openP
            rw [hdl]
            exact HPR.out
          · rw [hdr]
            exact HJR.out
    · obtain ⟨rest', hre, hpa'⟩ : ∃ rest', rest = b :: rest' ∧ Parse p.dry.l n1 rest' m := by
        cases rest with
        | nil =>
          have := HPA.out.2
          rw [hsome] at this
          cases this
        | cons x xs =>
          obtain ⟨n2, h1, h2⟩ := HPA.out
          rw [hsome] at h1
          injection h1 with h1
          injection h1 with h1 h1'
          subst h1 h1'
          exact ⟨xs, rfl, h2⟩
      have hbd := recL_drop hsome
      have hn1 : n < n1 := hbd.1
      have hn1l : n1 ≤ p.l.length := by rw [← hdl]; exact hbd.2
      obtain ⟨A6, c6, rfl, _⟩ := own_form hob
      have hsz := HO.out.size
      have hs3 : w.heap.size < w3.heap.size := Nat.lt_of_lt_of_le HJ.out.head.lt hb3.size
      have HPA2 := Lib.hid hpa'
      have hrs2 : rs = (done ++ [b]) ++ rest' := by rw [HRS.out, hre]; simp
      have HRS2 := Lib.hid hrs2
      have hmany := HJ.out.many
      have hml : done.length ≤ n := hmany
      have HM := Lib.hid hml
      have HJ3 := Lib.hid (HJ.out.below hb3)
      have HP4 := Lib.hid (HP3.out.below hb3)
      have HO3 := Lib.hid (HO.out.trans (Off.of_below hb3))
      have hal : Below w3.heap.size w3 (w3.alloc (.cells #[.slice A6 b.length c6] 44)) := (Below.refl _ _).alloc (Nat.le_refl _) _
      have HNB := Lib.hid (Blk.new w3 44 #[.slice A6 b.length c6])
      have HJ4 := Lib.hid (HJ3.out.below hal)
      have HP5 := Lib.hid (HP4.out.below hal)
      have HO4 := Lib.hid (HO3.out.trans (Off.of_below hal))
      have HOB := Lib.hid (own_base (hob.safe (Safe.of_below hal none) (fun k e => by cases e)) hsz)
      have e2 := HJ3.out.c2
      have hc1 : ∀ j u, ([.slice A6 b.length c6] : List Value)[j]? = some u → (w3.alloc (.cells #[.slice A6 b.length c6] 44)).cell? ((⟨w3.heap.size, 0, none⟩ : Addr).add j) = some u := by
        intro jj u hu
        rw [Addr.add_lit, HNB.out.cell, Nat.zero_add, ← hu]
        simp
      have hc2 : ∀ u ∈ ([.slice A6 b.length c6] : List Value), u.oneCell' = true := by
        intro u hu
        rw [List.mem_singleton] at hu
        subst hu
        rfl
      obtain ⟨vs, hown, hvl, hbs⟩ := HJ4.out.recs
      have hown' : (w3.alloc (.cells #[.slice A6 b.length c6] 44)).ownsRow w.heap.size 44 1 v done.length vs := hown
      have HOW := Lib.hid hown'
      have HVL := Lib.hid hvl
      have HBS := Lib.hid hbs
      have HC1 := Lib.hid hc1
      have HC2 := Lib.hid hc2
      have hb5 : done.length ≤ 20000 := by omega
      clear hpa' hre hrs2 hmany hml hb3 hob hal hown hown' hvl hbs hc1 hc2 HJ HP3 HO hbd hsome HPA HRS e3
      go_wp2_with (at_builtin; go_loud (refine wpList_append_lies _ rfl _ _ 58 rfl w.heap.size 44 i0 _ 1 24 Try.underlying58 hi hz0 hz1 hz2 rfl (by decide) v done.length vs rfl HOW.out ⟨w3.heap.size, 0, none⟩ 1 1 [.slice A6 b.length c6] rfl rfl HC1.out HC2.out (by omega) (by unfold maxLen; omega) (by omega) (by simp; omega) _ rfl ?_))
      intro gg cap' w5 hown5 hgr5 hat5 hlt5
      have hvj : ∀ k, v.ownBlock = some k → k ≠ w.heap.size := fun k hk e => by
        obtain ⟨_, _, cs, hcs⟩ := HJ4.out.recs.block k hk
        subst e
        exact absurd (hcs.ty HJ4.out.head) (by decide)
      have hbj5 := HJ4.out.head.grown hgr5 (fun e => hvj _ e.symm rfl)
      have c2 : w5.cell? ⟨w.heap.size, 2, none⟩ = some v := by rw [hbj5.cell]; rfl
      have c3 : w5.cell? ⟨w.heap.size, 3, none⟩ = some (.int .i64 n) := by rw [hbj5.cell]; rfl
      have f2 := hbj5.frozen 2
      have f3 := hbj5.frozen 3
      have HBJ5 := Lib.hid hbj5
      have HOWN5 := Lib.hid hown5
      have HGR5 := Lib.hid hgr5
      have HAT5 := Lib.hid hat5
      have HP6 := Lib.hid (HP5.out.grown hgr5 HOW.out (by decide) (by decide))
      have HVJ := Lib.hid hvj
      clear hbj5 hown5 hgr5 hat5 hlt5 hvj e2
      go_wp2_with fail
      have hF : FrX [w.heap.size] w5 ((w5.setCell ⟨w.heap.size, 2, none⟩ (.slice (some ⟨gg, 0, none⟩) (done.length + 1) cap')).setCell ⟨w.heap.size, 3, none⟩ (.int .i64 (n1 : Nat))) := ((FrX.refl _ _).setCell (by simp) _).setCell (by simp) _
      have hJH := (HBJ5.out.set_ 2 (.slice (some ⟨gg, 0, none⟩) (done.length + 1) cap')).set_ 3 (.int .i64 (n1 : Nat))
      have hPF : PadAt ((w5.setCell ⟨w.heap.size, 2, none⟩ (.slice (some ⟨gg, 0, none⟩) (done.length + 1) cap')).setCell ⟨w.heap.size, 3, none⟩ (.int .i64 (n1 : Nat))) g h p.dry := HP6.out.keep (fun t cs hb => hF g t cs (by have := HGH.out; simp; omega) hb) (fun t cs hb => hF h t cs (by have := HGH.out; simp; omega) hb)
      have hOF : Off g h w ((w5.setCell ⟨w.heap.size, 2, none⟩ (.slice (some ⟨gg, 0, none⟩) (done.length + 1) cap')).setCell ⟨w.heap.size, 3, none⟩ (.int .i64 (n1 : Nat))) := by
        have h1 : Off g h w w5 := ⟨HGR5.out.os.trans HO4.out.os, HGR5.out.tape.trans HO4.out.tape, HGR5.out.output.trans HO4.out.output, Nat.le_trans HO4.out.size HGR5.out.size, fun k h0 h1 h2 => by
          refine (HGR5.out.block k (Nat.lt_of_lt_of_le h0 HO4.out.size) (fun e => ?_)).trans (HO4.out.block k h0 h1 h2)
          have := (HJ4.out.recs.block k e.symm).1
          omega⟩
        exact (h1.setCell (.inr (.inr (Nat.le_refl _))) _).setCell (.inr (.inr (Nat.le_refl _))) _
      have hms : usedOf (((w5.setCell ⟨w.heap.size, 2, none⟩ (.slice (some ⟨gg, 0, none⟩) (done.length + 1) cap')).setCell ⟨w.heap.size, 3, none⟩ (.int .i64 (n1 : Nat))).cell? ⟨w.heap.size, 3, none⟩) = n1 := by rw [hJH.cell]; rfl
      generalize (w5.setCell ⟨w.heap.size, 2, none⟩ (.slice (some ⟨gg, 0, none⟩) (done.length + 1) cap')).setCell ⟨w.heap.size, 3, none⟩ (.int .i64 (n1 : Nat)) = WF at *
      have hSafe : Safe v.ownBlock (w3.alloc (.cells #[.slice A6 b.length c6] 44)) WF := by
        intro k t cs n1 n2 n3 n4 hb
        refine hF k t cs ?_ (hb.grown HGR5.out (fun e => n4 e.symm))
        simp
        intro e
        subst e
        exact n3 (hb.ty HJ4.out.head)
      have hgg : gg ≠ w.heap.size := by
        rcases HAT5.out with h | h
        · exact HVJ.out gg h
        · rw [h]; simp; omega
      go_roundw
      case rel =>
        refine ⟨done ++ [b], rest', n1, .slice (some ⟨gg, 0, none⟩) (done.length + 1) cap', hn1l, HRS2.out, HPA2.out, ⟨hJH, ⟨vs ++ [.slice A6 b.length c6], ?_, by simp [HVL.out], ?_⟩, by show 0 ≤ p.falls ∧ p.falls ≤ 1000000000; omega, by show n1 ≤ 20000; omega, ?_⟩, hPF, hOF⟩
        · have := own_frx HOWN5.out hF (fun k hk => by
            injection hk with hk
            subst hk
            simp; exact hgg)
          simpa using this
        · intro i hi
          by_cases h : i < done.length
          · have h' : i < vs.length := by rw [HVL.out]; exact h
            have e1 : (vs ++ [Value.slice A6 b.length c6]).getD i undef = vs.getD i undef := by simp [List.getD, List.getElem?_append_left h']
            have e2 : (done ++ [b]).getD i [] = done.getD i [] := by simp [List.getD, List.getElem?_append_left h]
            show OwnB WF w.heap.size ((vs ++ [Value.slice A6 b.length c6]).getD i undef) ((done ++ [b]).getD i [])
            rw [e1, e2]
            exact (HBS.out i h).safe hSafe (fun k e cs => HJ4.out.recs.noB k e cs)
          · have hi' : i = done.length := by
              have : i < (done ++ [b]).length := hi
              rw [List.length_append, List.length_singleton] at this
              omega
            subst hi'
            have e1 : (vs ++ [Value.slice A6 b.length c6]).getD done.length undef = .slice A6 b.length c6 := by
              have := HVL.out
              simp [List.getD, ← this]
            have e2 : (done ++ [b]).getD done.length [] = b := by simp [List.getD]
            show OwnB WF w.heap.size ((vs ++ [Value.slice A6 b.length c6]).getD done.length undef) ((done ++ [b]).getD done.length [])
            rw [e1, e2]
            exact HOB.out.safe hSafe (fun k e cs => HJ4.out.recs.noB k e cs)
        · have := HM.out
          show (done ++ [b]).length ≤ n1
          rw [List.length_append, List.length_singleton]
          omega
      case measure =>
        rw [hms]
        have := HU.out
        have hn' : n ≤ 20000 := hn
        omega
end Go.Proofs.Ytdjkkpefljapcaa
