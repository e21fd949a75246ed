/- The contracts of lombardhelp.Bytes, Same at slices of bytes, Lists, and of Journal.Records. -/
import Derived.Test.YtdjkkpefljapcaaAdd
import Derived.Laws.BytesArg
import Derived.WideShapes
namespace Go.Proofs.Ytdjkkpefljapcaa
open Go.RowKit
set_option linter.unusedVariables false
set_option linter.unusedSimpArgs false

theorem conv_zero (w : World) (A : Option Addr) (c : Nat) : (convert 44 9 (.slice A 0 c)).run Try.prog w = .ok (.string (strOfNums [])) w := by
  rw [run_convert_bytes_string w 44 9 5 _ 0 c Try.underlying44 Try.underlying5 Try.underlying9]
  cases A <;> simp [Conv.bytesToString, loadCells]
  all_goals rfl
theorem nums_convert {w : World} {B n c : Nat} {A : Option Addr} {xs : List Int} (h : Nums .u8 w B A n xs) : (convert 44 9 (.slice A n c)).run Try.prog w = .ok (.string (strOfNums xs)) w := by
  have hl := h.len
  by_cases hn : 0 < n
  · obtain ⟨b, o, rfl, _, hc⟩ := Reads.lit h hn (by decide)
    refine run_convert_bytes_arg (P := Try.prog) w 44 5 Try.underlying44 Try.underlying5 b o n c xs hl (fun i hi => ?_) 9 Try.underlying9
    refine hc i _ ?_
    simp [List.getElem?_eq_getElem (show i < xs.length by omega), List.getD]
  · obtain rfl : n = 0 := by omega
    obtain rfl : xs = [] := List.eq_nil_of_length_eq_zero hl
    exact conv_zero w A c
theorem strOfNums_inj {xs ys : List Int} (hx : isBytes xs) (hy : isBytes ys) (h : strOfNums xs = strOfNums ys) : xs = ys := by
  have h2 : (xs.map fun n => UInt8.ofNat n.toNat) = ys.map fun n => UInt8.ofNat n.toNat := by
    rw [← strOfNums_data, ← strOfNums_data, h]
  clear h
  induction xs generalizing ys with
  | nil =>
    cases ys with
    | nil => rfl
    | cons y ys => simp at h2
  | cons x xs ih =>
    cases ys with
    | nil => simp at h2
    | cons y ys =>
      simp only [List.map_cons, List.cons.injEq] at h2
      have e1 := hx x (by simp)
      have e2 := hy y (by simp)
      have e3 : x = y := by
        have := congrArg UInt8.toNat h2.1
        simp at this
        omega
      rw [e3, ih (fun b hb => hx b (by simp [hb])) (fun b hb => hy b (by simp [hb])) h2.2]

set_option maxRecDepth 100000 in
/-- Bytes. -/
theorem bytes_any (A1 A2 : Option Addr) (n m c d B1 B2 : Nat) (xs ys : List Int) (w : World) (h1 : Nums .u8 w B1 A1 n xs) (h2 : Nums .u8 w B2 A2 m ys) (hx : isBytes xs) (hy : isBytes ys) :
    Calls Try.prog 34 #[.slice A1 n c, .slice A2 m d] w fun e w' => e = .returned (.bool (decide (xs = ys))) ∧ w = w' := by
  have e1 := nums_convert (c := c) h1
  have e2 := nums_convert (c := d) h2
  have hd : ((strOfNums xs).toList == (strOfNums ys).toList) = decide (xs = ys) := by
    rw [Bool.eq_iff_iff, beq_iff_eq, decide_eq_true_iff, ByteArray.toList_eq, ByteArray.toList_eq]
    exact ⟨fun h => strOfNums_inj hx hy (Go.WideShapes.bytes_inj h), fun h => by rw [h]⟩
  have HD := Lib.hid hd
  clear hd h1 h2
  generalize strOfNums xs = s1 at *
  generalize strOfNums ys = s2 at *
  go_enter Try.func34, Try.ntmps34
  go_wp2
  go_ret
  rw [← HD.out]
  exact ⟨rfl, rfl⟩

/-- A slice of slices of bytes, read. -/
def Lst (w : World) (B : Nat) (A : Option Addr) (n : Nat) (l : List (List Int)) : Prop :=
  ∃ vs : List Value, Reads w B 1 A n vs ∧ l.length = n ∧ ∀ i, i < n → ∃ Ai ni ci, vs.getD i undef = .slice Ai ni ci ∧ Nums .u8 w B Ai ni (l.getD i [])
theorem Lst.drewN {w : World} {B n : Nat} {A : Option Addr} {l : List (List Int)} (h : Lst w B A n l) (k : Nat) : Lst (w.drewN k) B A n l := h
theorem Lst.quiet {w w' : World} {B n : Nat} {A : Option Addr} {l : List (List Int)} (h : Lst w B A n l) (k : Quiet w w') : Lst w' B A n l := by
  obtain ⟨m, rfl⟩ := k
  exact h
theorem Lst.below {w w' : World} {B n : Nat} {A : Option Addr} {l : List (List Int)} (h : Lst w B A n l) (k : Below B w w') : Lst w' B A n l := by
  obtain ⟨vs, h1, h2, h3⟩ := h
  exact ⟨vs, h1.below k, h2, fun i hi => by obtain ⟨Ai, ni, ci, e, hn⟩ := h3 i hi; exact ⟨Ai, ni, ci, e, hn.below k⟩⟩
theorem Lst.at_ {w : World} {B n i : Nat} {A : Option Addr} {l : List (List Int)} (h : Lst w B A n l) (hi : i < n) : ∃ ad Ai ni ci, A = some ad ∧ w.cell? (ad.add i) = some (.slice Ai ni ci) ∧ Nums .u8 w B Ai ni (l.getD i []) := by
  obtain ⟨vs, hr, hl, hv⟩ := h
  obtain ⟨ad, u, hA, _, hu, hc⟩ := hr.at_ hi
  obtain ⟨Ai, ni, ci, e, hn⟩ := hv i hi
  refine ⟨ad, Ai, ni, ci, hA, ?_, hn⟩
  rw [hc, ← e]
  simp [List.getD, hu]
theorem Recs.lst {w : World} {base : Nat} {v : Value} {l : List (List Int)} (h : Recs w base v l) : ∃ A c, v = .slice A l.length c ∧ Lst w w.heap.size A l.length l := by
  obtain ⟨vs, h1, h2, h3⟩ := h
  obtain ⟨A, c, rfl, hr⟩ := own_form h1
  refine ⟨A, c, rfl, vs, hr, rfl, fun i hi => ?_⟩
  obtain ⟨Ai, ci, e, hri⟩ := own_form (h3 i hi)
  exact ⟨Ai, _, ci, e, hri⟩

theorem eq_of_getD {a b : List (List Int)} (h : a.length = b.length) (hh : ∀ i, i < a.length → a.getD i [] = b.getD i []) : a = b := by
  apply List.ext_getElem h
  intro i h1 h2
  have := hh i h1
  simpa [List.getD, h1, h2] using this

set_option maxRecDepth 100000 in
set_option maxHeartbeats 1000000 in
theorem sameB_any (A1 A2 : Option Addr) (n m c d B1 B2 : Nat) (xs ys : List (List Int)) (w : World) (h1 : Lst w B1 A1 n xs) (h2 : Lst w B2 A2 m ys) (hx : ∀ b ∈ xs, isBytes b) (hy : ∀ b ∈ ys, isBytes b) (hn : n ≤ 100000) :
    Calls Try.prog 62 #[.slice A1 n c, .slice A2 m d, .func (.func 34) #[] #[]] w fun e w' => e = .returned (.bool (decide (xs = ys))) ∧ Quiet w w' := by
  have hlx : xs.length = n := h1.choose_spec.2.1
  have hly : ys.length = m := h2.choose_spec.2.1
  by_cases hnm : n = m
  · subst hnm
    have H1 := Lib.hid h1
    have H2 := Lib.hid h2
    have HX := Lib.hid hx
    have HY := Lib.hid hy
    have HLX := Lib.hid hlx
    have HLY := Lib.hid hly
    clear h1 h2 hx hy hlx hly
    go_enter Try.func62, Try.ntmps62
    go_wp2_with fail
    go_loopw [7] (fun i wr => ∃ k : Nat, k ≤ n ∧ i = .int .i64 k ∧ Quiet w wr ∧ ∀ i, i < k → xs.getD i [] = ys.getD i []) (fun i _ => n - (intOf i).toNat)
    case atStart => exact ⟨0, Nat.zero_le _, rfl, Quiet.refl _, fun i hi => absurd hi (by omega)⟩
    case round =>
      obtain ⟨k, hk, rfl, hq, hh⟩ := hrel
      have HQ := Lib.hid hq
      have HH := Lib.hid hh
      clear hh
      by_cases hlt : k < n
      · obtain ⟨ad1, A1', n1, c1, rfl, e1, hn1⟩ := (H1.out.quiet hq).at_ hlt
        obtain ⟨ad2, A2', n2, c2, rfl, e2, hn2⟩ := (H2.out.quiet hq).at_ hlt
        have hb1 : isBytes (xs.getD k []) := by
          rw [List.getD, List.getElem?_eq_getElem (by rw [HLX.out]; exact hlt)]
          exact HX.out _ (List.getElem_mem _)
        have hb2 : isBytes (ys.getD k []) := by
          rw [List.getD, List.getElem?_eq_getElem (by rw [HLY.out]; exact hlt)]
          exact HY.out _ (List.getElem_mem _)
        have hcall : ∀ q', Calls Try.prog 34 #[.slice A1' n1 c1, .slice A2' n2 c2] (wr.drewN q') fun e w' => e = .returned (.bool (decide (xs.getD k [] = ys.getD k []))) ∧ wr.drewN q' = w' := fun q' => bytes_any A1' A2' n1 n2 c1 c2 _ _ _ _ _ (show Nums .u8 (wr.drewN q') _ _ _ _ from hn1) (show Nums .u8 (wr.drewN q') _ _ _ _ from hn2) hb1 hb2
        cases hd : decide (xs.getD k [] = ys.getD k []) with
        | true =>
          rw [hd] at hcall
          have HC := Lib.hid hcall
          have HD := Lib.hid (of_decide_eq_true hd)
          clear hcall hd hn1 hn2 hb1 hb2 hq
          go_wp2_with fail
          go_quiet ((go_at_call 34; exact quiet_same (HC.out _)))
          go_wp2_with fail
          go_roundw
          case rel =>
            refine ⟨k + 1, by omega, by go_num, HQ.out.then_ nq, fun i hi => ?_⟩
            by_cases h : i < k
            · exact HH.out i h
            · obtain rfl : i = k := by omega
              exact HD.out
          case measure => simp [intOf]; omega
        | false =>
          rw [hd] at hcall
          have HC := Lib.hid hcall
          have HD := Lib.hid (of_decide_eq_false hd)
          clear hcall hd hn1 hn2 hb1 hb2 hq
          go_wp2_with fail
          go_quiet ((go_at_call 34; exact quiet_same (HC.out _)))
          go_wp2_with fail
          go_ret
          refine ⟨?_, HQ.out.then_ nq⟩
          rw [decide_eq_false (fun e => HD.out (by rw [e]))]
          rfl
      · obtain rfl : k = n := by omega
        go_wp2_with fail
        go_ret
        refine ⟨?_, HQ.out⟩
        rw [decide_eq_true (eq_of_getD (by rw [HLX.out, HLY.out]) (fun i hi => HH.out i (by rw [← HLX.out]; exact hi)))]
        rfl
  · have hne : ((n : Int) != (m : Int)) = true := by simp; omega
    have HD := Lib.hid (show xs ≠ ys from fun e => hnm (by rw [← hlx, ← hly, e]))
    clear h1 h2 hx hy hlx hly
    go_enter Try.func62, Try.ntmps62
    go_wp2_with fail
    go_ret
    refine ⟨?_, Quiet.refl _⟩
    rw [decide_eq_false HD.out]
    rfl

set_option maxRecDepth 100000 in
/-- Lists. -/
theorem lists_any (A1 A2 : Option Addr) (n m c d B1 B2 : Nat) (xs ys : List (List Int)) (w : World) (h1 : Lst w B1 A1 n xs) (h2 : Lst w B2 A2 m ys) (hx : ∀ b ∈ xs, isBytes b) (hy : ∀ b ∈ ys, isBytes b) (hn : n ≤ 100000) :
    Calls Try.prog 41 #[.slice A1 n c, .slice A2 m d] w fun e w' => e = .returned (.bool (decide (xs = ys))) ∧ Quiet w w' := by
  have HS := Lib.hid (sameB_any A1 A2 n m c d B1 B2 xs ys w h1 h2 hx hy hn)
  clear h1 h2 hx hy
  go_enter Try.func41, Try.ntmps41
  go_wp2_with fail
  refine HS.out.mono ?_
  rintro e w1 ⟨rfl, hq⟩
  have HQ := Lib.hid hq
  clear hq
  go_wp2_with fail
  go_ret
  exact ⟨rfl, HQ.out⟩

set_option maxRecDepth 100000 in
theorem records_nil (w : World) : Calls Try.prog 38 #[.pointer none] w fun e w' => e = .returned (.slice none 0 0) ∧ w = w' := by
  go_enter Try.func38, Try.ntmps38
  go_wp2
  go_ret
  exact ⟨rfl, rfl⟩

/-- A record is appended to a row of records. -/
theorem recs_append {w w1 : World} {base gg cap c : Nat} {v : Value} {l : List (List Int)} {b : List Int} {A : Option Addr} {vs : List Value} (hvl : vs.length = l.length) (hbs : ∀ i, i < l.length → OwnB w base (vs.getD i undef) (l.getD i []))
    (hr : Recs w base v l) (hob : OwnB w base (.slice A b.length c) b) (hown : w1.ownsRow base 44 1 (.slice (some ⟨gg, 0, none⟩) (l.length + 1) cap) (l.length + 1) (vs ++ [.slice A b.length c])) (hg : w.grownBy w1 v.ownBlock) :
    Recs w1 base (.slice (some ⟨gg, 0, none⟩) (l.length + 1) cap) (l ++ [b]) := by
  have hSafe : Safe v.ownBlock w w1 := fun k t cs _ _ _ n4 hb => hb.grown hg (fun e => n4 e.symm)
  refine ⟨vs ++ [.slice A b.length c], by simpa using hown, by simp [hvl], fun i hi => ?_⟩
  by_cases h : i < l.length
  · have h' : i < vs.length := by rw [hvl]; exact h
    have e1 : (vs ++ [Value.slice A b.length c]).getD i undef = vs.getD i undef := by simp [List.getD, List.getElem?_append_left h']
    have e2 : (l ++ [b]).getD i [] = l.getD i [] := by simp [List.getD, List.getElem?_append_left h]
    rw [e1, e2]
    exact (hbs i h).safe hSafe (fun k e cs => hr.noB k e cs)
  · have hi' : i = l.length := by
      rw [List.length_append, List.length_singleton] at hi
      omega
    subst hi'
    have e1 : (vs ++ [Value.slice A b.length c]).getD l.length undef = .slice A b.length c := by simp [List.getD, ← hvl]
    have e2 : (l ++ [b]).getD l.length [] = b := by simp [List.getD]
    rw [e1, e2]
    exact hob.safe hSafe (fun k e cs => hr.noB k e cs)

set_option maxRecDepth 100000 in
set_option maxHeartbeats 1000000 in
theorem records_any {w : World} {base g j : Nat} {v : Value} {J : Jn} (a : JouAt w base g j v J) (hl : ∀ b ∈ J.l, 1 ≤ b.length ∧ b.length ≤ 100000) :
    Calls Try.prog 38 #[.pointer (some ⟨j, 0, none⟩)] w fun e w' => ∃ v', e = .returned v' ∧ Recs w' w.heap.size v' J.l ∧ Below w.heap.size w w' := by
  obtain ⟨i0, hi, hz0, hz1, hz2⟩ := info_parts Try.info44
  obtain ⟨A, c, hv, hlst⟩ := a.recs.lst
  have e2 := a.c2
  rw [hv] at e2
  have hm1 := a.many
  have hm2 := a.used
  have hmm : J.l.length ≤ 20000 := Nat.le_trans hm1 hm2
  clear hm1 hm2
  obtain ⟨n, hn⟩ : ∃ n, J.l.length = n := ⟨_, rfl⟩
  rw [hn] at e2 hlst hmm
  have HN := Lib.hid hn
  have HLS := Lib.hid hlst
  have HL := Lib.hid hl
  clear hlst hn hl hv a
  generalize J.l = l at *
  go_enter Try.func38, Try.ntmps38
  go_wp2_with fail
  go_loopw [3, 13] (fun v i wr => ∃ k : Nat, i = .int .i64 k ∧ k ≤ n ∧ Recs wr w.heap.size v (l.take k) ∧ Below w.heap.size w wr) (fun _ i _ => n - (intOf i).toNat)
  case atStart => exact ⟨0, rfl, Nat.zero_le _, Recs.nil _ _, Below.refl _ _⟩
  case round =>
    rename_i uv
    obtain ⟨k, rfl, hk, hr, hb⟩ := hrel
    have HR := Lib.hid hr
    have HB := Lib.hid hb
    clear hr hb
    by_cases hlt : k < n
    · obtain ⟨ad, Ai, ni, ci, rfl, e1, hnu⟩ := (HLS.out.below HB.out).at_ hlt
      have hbl : (l.getD k []) ∈ l := by
        rw [List.getD, List.getElem?_eq_getElem (by rw [HN.out]; exact hlt)]
        exact List.getElem_mem _
      obtain ⟨g1, g2⟩ := HL.out _ hbl
      have hnl := hnu.len
      rw [hnl] at g1 g2
      obtain ⟨b0, o0, rfl, _, _⟩ := Reads.lit hnu (by omega) (by decide)
      obtain ⟨b, hb⟩ : ∃ b, l.getD k [] = b := ⟨_, rfl⟩
      have htk : l.take (k + 1) = l.take k ++ [b] := by
        rw [← hb, List.take_succ_eq_append_getElem (by rw [HN.out]; exact hlt)]
        simp [List.getD, show k < l.length by rw [HN.out]; exact hlt]
      rw [hb] at hnu hnl
      have HTK := Lib.hid htk
      have HNU := Lib.hid hnu
      have hsz := HB.out.size
      clear hbl hb htk hnu hnl
      go_wp2_with fail
      refine (clone_any ⟨b0, o0, none⟩ ni ci _ b _ HNU.out hsz g1 g2).mono ?_
      rintro e w3 ⟨v6, rfl, hob, hb3⟩
      obtain ⟨A6, c6, rfl, _⟩ := own_form hob
      obtain ⟨v0, hv0⟩ : ∃ v0, uv = v0 := ⟨_, rfl⟩
      have hal : Below w3.heap.size w3 (w3.alloc (.cells #[.slice A6 b.length c6] 44)) := (Below.refl _ _).alloc (Nat.le_refl _) _
      have hb34 := hb3.trans (hal.mono hb3.size)
      have HNB := Lib.hid (Blk.new w3 44 #[.slice A6 b.length c6])
      have HR4 := Lib.hid (HR.out.safe (Safe.of_below hb34 none) (.inl rfl))
      have HB4 := Lib.hid (HB.out.trans (hb34.mono hsz))
      have HOB := Lib.hid (own_base (hob.safe (Safe.of_below hal none) (fun k e => by cases e)) hsz)
      have hc1 : ∀ j u, ([.slice A6 b.length c6] : List Value)[j]? = some u → (w3.alloc (.cells #[.slice A6 b.length c6] 44)).cell? ((⟨w3.heap.size, 0, none⟩ : Addr).add j) = some u := by
        intro jj u hu
        rw [Addr.add_lit, HNB.out.cell, Nat.zero_add, ← hu]
        simp
      have hc2 : ∀ u ∈ ([.slice A6 b.length c6] : List Value), u.oneCell' = true := by
        intro u hu
        rw [List.mem_singleton] at hu
        subst hu
        rfl
      obtain ⟨vs, hown, hvl, hbs⟩ := HR4.out
      have hkl : (l.take k).length = k := by rw [List.length_take, HN.out]; omega
      rw [hkl] at hown
      have hs3 : w.heap.size ≤ w3.heap.size := Nat.le_trans hsz hb3.size
      have HOW := Lib.hid hown
      have HVL := Lib.hid hvl
      have HBS := Lib.hid hbs
      have HC1 := Lib.hid hc1
      have HC2 := Lib.hid hc2
      have HKL := Lib.hid hkl
      clear hob hb3 hal hb34 hown hvl hbs hc1 hc2 HR HB hkl
      go_wp2_with (at_builtin; go_loud (refine wpList_append_lies _ rfl _ _ 58 rfl w.heap.size 44 i0 _ 1 24 Try.underlying58 hi hz0 hz1 hz2 rfl (by decide) _ k vs rfl HOW.out ⟨w3.heap.size, 0, none⟩ 1 1 [.slice A6 b.length c6] rfl rfl HC1.out HC2.out (by omega) (by unfold maxLen; omega) (by omega) (by simp; omega) _ rfl ?_))
      intro gg cap' w5 hown5 hgr5 hat5 hlt5
      have hrec : Recs w5 w.heap.size (.slice (some ⟨gg, 0, none⟩) (k + 1) cap') (l.take k ++ [b]) := by
        have := recs_append (gg := gg) (cap := cap') HVL.out HBS.out HR4.out HOB.out (by rw [HKL.out]; exact hown5) hgr5
        rw [HKL.out] at this
        exact this
      have HREC := Lib.hid hrec
      have HB5 := Lib.hid (HB4.out.grown hgr5 (by simp; omega) (fun k' hk' => (HR4.out.block k' hk').1))
      clear hown5 hgr5 hat5 hlt5 hrec
      go_wp2_with fail
      go_roundw
      case rel => exact ⟨k + 1, by go_num, by omega, by rw [HTK.out]; exact HREC.out, HB5.out⟩
      case measure => simp [intOf]; omega
    · obtain rfl : k = n := by omega
      go_wp2_with fail
      go_ret
      refine ⟨_, rfl, ?_, HB.out⟩
      have := HR.out
      rw [List.take_of_length_le (by rw [HN.out]; exact Nat.le_refl _)] at this
      exact this
end Go.Proofs.Ytdjkkpefljapcaa
