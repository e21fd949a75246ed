/- JournalPlays: whatever is added, and whenever it falls. -/
import Derived.Test.YtdjkkpefljapcaaPlH
namespace Go.Proofs.Ytdjkkpefljapcaa
open Go.RowKit
set_option linter.unusedVariables false
set_option linter.unusedSimpArgs false

def HaveOk (w0 w : World) (v vh : Value) (rs : List (List Int)) : Prop := Recs w w0.heap.size vh rs ∧ ∀ k, vh.ownBlock = some k → v.ownBlock ≠ some k
def LateOk (w0 w : World) : Option (List Int) → Value → Prop
  | none, v => v = .slice none 0 0
  | some b, v => ∃ A c, v = .slice (some A) b.length c ∧ OwnB w w0.heap.size v b
section
variable {w0 w w' : World} {g h j N : Nat} {F : Int} {rs : List (List Int)} {v vh vl : Value} {p : Pd} {late : Option (List Int)}
theorem HaveOk.below (a : HaveOk w0 w v vh rs) (hb : Below w.heap.size w w') : HaveOk w0 w' v vh rs := ⟨a.1.safe (Safe.of_below hb none) (.inl rfl), a.2⟩
theorem HaveOk.safe (a : HaveOk w0 w v vh rs) (hp : Pl w0 w g h j N F rs v p late) (hs : Safe v.ownBlock w w') : Recs w' w0.heap.size vh rs := by
  refine a.1.safe hs ?_
  cases hv : v.ownBlock with
  | none => exact .inl rfl
  | some k => exact .inr ⟨fun e => a.2 k e hv, fun k' e cs => hp.jou.recs.noB k' (by rw [hv]; exact e) cs⟩
theorem LateOk.below (a : LateOk w0 w late vl) (hb : Below w.heap.size w w') : LateOk w0 w' late vl := by
  cases late with
  | none => exact a
  | some b => obtain ⟨A, c, e, ho⟩ := a; exact ⟨A, c, e, ho.safe (Safe.of_below hb none) (fun k e => by cases e)⟩
theorem LateOk.off {p' : Pd} (a : LateOk w0 w late vl) (hp : PadAt w g h p') (ho : Off g h w w') : LateOk w0 w' late vl := by
  cases late with
  | none => exact a
  | some b => obtain ⟨A, c, e, hh⟩ := a; exact ⟨A, c, e, hh.safe (Safe.of_off hp ho none) (fun k e => by cases e)⟩
theorem HaveOk.off {p' : Pd} (a : HaveOk w0 w v vh rs) (hp : PadAt w g h p') (ho : Off g h w w') : HaveOk w0 w' v vh rs := ⟨a.1.safe (Safe.of_off hp ho none) (.inl rfl), a.2⟩
end
def PlI (w0 w : World) (g h N k : Nat) (vj vh vl vu vg : Value) : Prop :=
  ∃ (j : Nat) (F : Int) (rs : List (List Int)) (v : Value) (p : Pd) (late : Option (List Int)), vj = .pointer (some ⟨j, 0, none⟩) ∧ vu = .int .i64 (usedBy rs : Nat) ∧ vg = .bool late.isSome ∧ Pl w0 w g h j N F rs v p late ∧ p.falls ≤ k ∧ HaveOk w0 w v vh rs ∧ LateOk w0 w late vl

set_option maxRecDepth 100000 in
set_option maxHeartbeats 100000000 in
theorem plays_core (a0 u0 : Int) (q : Nat) (A : Option Addr) (len cap : Nat) (l : List OpV) (w : World) (hrow : OpRow w A len cap l) (hu : IntKind.u64.wrap a0 = u0) (g0 : 0 ≤ u0) (hq : u0 % 40 = q) (q1 : (q : Int) < 40) :
    Calls Try.prog 13 #[.int .i64 a0, .slice A len cap] w fun e w' => e = .returned (.bool true) ∧ Below w.heap.size w w' := by
  have hN : (min (max (4 + (q : Int)) 0) 20000).toNat = q + 4 := by omega
  have HN := Lib.hid hN
  have hlm : len ≤ maxLen := hrow.2.1
  have HROW := Lib.hid hrow
  clear hN hrow
  unfold maxLen at hlm
  go_enter Try.func13, Try.ntmps13
  go_wp2_with fail
  refine (new_any (4 + (q : Int)) (by omega) (by omega) _).mono ?_
  rintro e w1 ⟨g, h, rfl, hp, h1, h2, hb⟩
  have HO := Lib.hid (St.new (w0 := w) hp h1 h2 hb)
  clear hp h1 h2 hb hu hq
  go_wp2_with fail
  refine HO.out.mono ?_
  rintro e w2 ⟨j, v, rfl, hs⟩
  rw [HN.out] at hs
  have HS := Lib.hid hs
  clear hs HO
  go_wp2_with fail
  refine (awake24 _).mono ?_
  rintro e w3 ⟨rfl, hb3⟩
  have HS3 := Lib.hid (HS.out.next hb3)
  have hpl0 : Pl w w3 g h j (q + 4) 0 [] v (padOf (q + 4) 0 0 []) none := ⟨HS3.out.pad, HS3.out.jou, HS3.out.ge, HS3.out.below, ⟨HS3.out.fit, by omega⟩, (fun b hb => by cases hb), ⟨0, by omega, by omega, rfl⟩, (fun b e => by cases e)⟩
  have HPL0 := Lib.hid hpl0
  clear hb3 HS HS3 hpl0
  go_wp2_with fail
  go_loopw [6, 7, 8, 9, 10, 11, 12] (fun vj ve vh vl vu vg vi wr => ∃ k : Nat, vi = .int .i64 k ∧ k ≤ len ∧ k ≤ 40 ∧ PlI w wr g h (q + 4) k vj vh vl vu vg) (fun vj ve vh vl vu vg vi _ => 40 - (intOf vi).toNat)
  case atStart => exact ⟨0, rfl, Nat.zero_le _, by omega, j, 0, [], v, _, none, rfl, rfl, rfl, HPL0.out, Int.le_refl _, ⟨Recs.nil _ _, fun k hk => by simp [Value.ownBlock] at hk⟩, rfl⟩
  case round =>
    obtain ⟨k, rfl, hkl, hk40, j, F, rs, v, p, late, rfl, rfl, rfl, hpl, hfa, hhv, hlt⟩ := hrel
    have HPL := Lib.hid hpl
    have HFA := Lib.hid hfa
    have HHV := Lib.hid hhv
    have HLT := Lib.hid hlt
    clear hpl hfa hhv hlt HPL0 HN
    by_cases hend : k < len
    · by_cases h40 : k < 40
      · obtain ⟨b0, o0, hA, hb0, hrange, hmem⟩ := HROW.out.range hend
        obtain ⟨ok1, ok2, ok3, ok4⟩ := HROW.out.2.2.1 _ hmem
        obtain ⟨op, hop⟩ : ∃ op, l.getD k OpV.zero = op := ⟨_, rfl⟩
        rw [hop] at hrange ok1 ok2 ok3 ok4
        clear hop hmem
        obtain ⟨kd, nn, ⟨A1, n1, c1, z1⟩, ⟨A2, n2, c2, z2⟩⟩ := op
        dsimp only [OpV.cells, Sl.val] at hrange ok1 ok2 ok3 ok4
        subst hA
        have hrg := hrange wr HPL.out.below
        have HRG := Lib.hid hrg
        have HK1 := Lib.hid (show IsRow .u8 w A1 n1 c1 z1 from ok3)
        have HK2 := Lib.hid (show IsRow .i64 w A2 n2 c2 z2 from ok4)
        have hkd : -9223372036854775808 ≤ kd ∧ kd ≤ 9223372036854775807 := bounds_i64 ok1
        have hnn : -9223372036854775808 ≤ nn ∧ nn ≤ 9223372036854775807 := bounds_i64 ok2
        have HX := Lib.hid (w66_blk wr [.int .i64 kd, .int .i64 nn, .slice A1 n1 c1, .slice A2 n2 c2] rfl)
        have hb1 := w66_below wr [.int .i64 kd, .int .i64 nn, .slice A1 n1 c1, .slice A2 n2 c2]
        have HPL1 := Lib.hid (HPL.out.next hb1)
        have HHV1 := Lib.hid (HHV.out.below hb1)
        have HLT1 := Lib.hid (HLT.out.below hb1)
        have hsz1 : wr.heap.size < (w66 wr [.int .i64 kd, .int .i64 nn, .slice A1 n1 c1, .slice A2 n2 c2]).heap.size := HX.out.lt
        obtain ⟨w1', hW⟩ : ∃ W, w66 wr [.int .i64 kd, .int .i64 nn, .slice A1 n1 c1, .slice A2 n2 c2] = W := ⟨_, rfl⟩
        rw [hW] at HX HPL1 HHV1 HLT1 hsz1
        have hxc : ∀ i u, [Value.int .i64 kd, .int .i64 nn, .slice A1 n1 c1, .slice A2 n2 c2][i]? = some u → w1'.cell? ⟨wr.heap.size, i, none⟩ = some u := fun i u hu => by rw [HX.out.cell]; simpa using hu
        have x0 := hxc 0 _ rfl
        have x1 := hxc 1 _ rfl
        have x2 := hxc 2 _ rfl
        have x3 := hxc 3 _ rfl
        have HW := Lib.hid hW
        clear ok1 ok2 ok3 ok4 hrange hrg hb1 hW hxc HPL HHV HLT
        have hl1 := HK1.out.len_
        have hl2 := HK2.out.len_
        unfold maxLen at hl1 hl2
        by_cases hc1 : 150 < n1
        · have e1 : decide (150 < (n1 : Int)) = true := decide_eq_true (by omega)
          as_aux_lemma =>
            go_wp2_with (first
              | (with_reducible refine step_alloc 66 z66 Try.zero66 rfl rfl ?_)
              | (refine step_loadG 66 _ b0 (o0 + k * 4) #[.int .i64 kd, .int .i64 nn, .slice A1 n1 c1, .slice A2 n2 c2] rfl rfl rfl HRG.out _ Try.underlying66 rfl 4 Try.size66 rfl ?_)
              | (refine step_put66 (w := wr) [.int .i64 kd, .int .i64 nn, .slice A1 n1 c1, .slice A2 n2 c2] _ _ rfl rfl rfl rfl rfl rfl (one66 _ _ _ _ _ _ _ _) HW.out ?_))
            go_roundw
            case rel => exact ⟨k + 1, by go_num, by omega, by omega, j, F, rs, v, p, late, rfl, rfl, rfl, HPL1.out, by have := HFA.out; omega, HHV1.out, HLT1.out⟩
            case measure => simp [intOf]; omega
        · have e1 : decide (150 < (n1 : Int)) = false := decide_eq_false (by omega)
          by_cases hc2 : 20 < n2
          · have e2 : decide (20 < (n2 : Int)) = true := decide_eq_true (by omega)
            as_aux_lemma =>
              go_wp2_with (first
                | (with_reducible refine step_alloc 66 z66 Try.zero66 rfl rfl ?_)
                | (refine step_loadG 66 _ b0 (o0 + k * 4) #[.int .i64 kd, .int .i64 nn, .slice A1 n1 c1, .slice A2 n2 c2] rfl rfl rfl HRG.out _ Try.underlying66 rfl 4 Try.size66 rfl ?_)
                | (refine step_put66 (w := wr) [.int .i64 kd, .int .i64 nn, .slice A1 n1 c1, .slice A2 n2 c2] _ _ rfl rfl rfl rfl rfl rfl (one66 _ _ _ _ _ _ _ _) HW.out ?_))
              go_roundw
              case rel => exact ⟨k + 1, by go_num, by omega, by omega, j, F, rs, v, p, late, rfl, rfl, rfl, HPL1.out, by have := HFA.out; omega, HHV1.out, HLT1.out⟩
              case measure => simp [intOf]; omega
          · have e2 : decide (20 < (n2 : Int)) = false := decide_eq_false (by omega)
            by_cases hk1 : kd = 1
            · subst hk1
              as_aux_lemma =>
                go_wp2_with (first
                  | (with_reducible refine step_alloc 66 z66 Try.zero66 rfl rfl ?_)
                  | (refine step_loadG 66 _ b0 (o0 + k * 4) #[.int .i64 1, .int .i64 nn, .slice A1 n1 c1, .slice A2 n2 c2] rfl rfl rfl HRG.out _ Try.underlying66 rfl 4 Try.size66 rfl ?_)
                  | (refine step_put66 (w := wr) [.int .i64 1, .int .i64 nn, .slice A1 n1 c1, .slice A2 n2 c2] _ _ rfl rfl rfl rfl rfl rfl (one66 _ _ _ _ _ _ _ _) HW.out ?_))

                have hf0 : p.falls < 1000000000 := by have := HFA.out; omega
                refine (drop_any HPL1.out.pad hf0 A2 n2 c2 w.heap.size (z2.take n2) (fun w' ho => HK2.out.nums.below (HPL1.out.below.trans (ho.below HPL1.out.ge.1 HPL1.out.ge.2.1 HPL1.out.below.size))) HK2.out.wf_ (by omega)).mono ?_
                rintro e s2 ⟨rfl, hp2, ho2⟩
                obtain ⟨rs', hre⟩ := HPL1.out.reop1 (z2.take n2)
                have HPS := Lib.hid hp2
                have HOS := Lib.hid ho2
                clear hp2 ho2 hf0
                go_wp2_with fail

                -- Snag(0), Mend, Open
                obtain ⟨ps, hps⟩ : ∃ ps, p.drop (z2.take n2) = ps := ⟨_, rfl⟩
                rw [hps] at hre HPS
                clear hps
                have HRE := Lib.hid hre
                have HLB := Lib.hid HPL1.out.lateb
                clear hre
                refine (snag_any 0 (by omega) HPS.out).mono ?_
                rintro e s3 ⟨rfl, hp3, ho3⟩
                rw [show max (0 : Int) 0 = 0 from rfl] at hp3
                have HP3 := Lib.hid hp3
                have HO3 := Lib.hid (HOS.out.trans ho3)
                clear hp3 ho3 HPS HOS
                go_wp2_with fail
                refine (mend_any HP3.out).mono ?_
                rintro e s4 ⟨rfl, hp4, ho4⟩
                have HO4 := Lib.hid (HO3.out.trans ho4)
                have HOPEN := Lib.hid (HPL1.out.open_ hp4 HO4.out HRE.out (by have := HFA.out; omega))
                have hh4 := HHV1.out.off HPL1.out.pad HO4.out
                have hl4 := HLT1.out.off HPL1.out.pad HO4.out
                have hf4 : (({ ps with snag := 0 } : Pd).mend).falls ≤ ((k + 1 : Nat) : Int) := by have := HRE.out.2.2.1; have := HFA.out; omega
                generalize hq2 : ({ ps with snag := 0 } : Pd).mend = p2 at *
                clear hq2
                have HP4 := Lib.hid hp4
                have HH4 := Lib.hid hh4
                have HL4 := Lib.hid hl4
                have HF4 := Lib.hid hf4
                clear hp4 ho4 hh4 hl4 hf4 HP3 HO3
                go_wp2_with fail
                refine HOPEN.out.mono ?_
                rintro e s5 ⟨j5, v5, rfl, hpl5, ho5, hv5⟩
                have HPL5 := Lib.hid hpl5
                have hh5 : HaveOk w s5 v5 u8 rs := ⟨(HH4.out.off HP4.out ho5).1, fun k' hk' e => by
                  have h1 := (HH4.out.1.block k' hk').2.1
                  have h2 := hv5 k' e
                  omega⟩
                have HH5 := Lib.hid hh5
                have HL5 := Lib.hid (HL4.out.off HP4.out ho5)
                have h7 := HRE.out.2.2.2.2.2.2
                have HFN := Lib.hid (show (padOf (q + 4) p2.falls 0 rs').falls ≤ ((k + 1 : Nat) : Int) from HF4.out)
                clear hpl5 ho5 hv5 hh5 HOPEN HPL1 HHV1 HLT1 HH4 HL4 HP4 HO4 HRE HF4 x0 x1 x2 x3 HX
                cases late with
                | none =>
                  obtain rfl : rs' = rs := by
                    rcases h7 with h7 | ⟨b, hb, _⟩
                    · exact h7
                    · cases hb
                  obtain rfl : u9 = .slice none 0 0 := HL5.out
                  have hnq : ∀ W, (binOp .neq 44 (.slice none 0 0) (.slice none 0 0)).run Try.prog W = .ok (.bool false) W := fun W => neq_nil44 W none 0 0
                  clear h7 HL5
                  go_wp2_with fail
                  refine (HPL5.out.records).mono ?_
                  rintro e wa ⟨Ar, cr, rfl, hlr, hba⟩
                  have HPa := Lib.hid (HPL5.out.next hba)
                  have HHa := Lib.hid (HH5.out.below hba)
                  obtain ⟨Ah, ch, hvh, hlh⟩ := HHa.out.1.lst
                  have HLI := Lib.hid (lists_any Ar Ah (rs').length (rs').length cr ch _ _ _ _ wa hlr hlh HPa.out.nBytes HPa.out.nBytes (by have := HPa.out.many; omega))
                  rw [decide_eq_true rfl, ← hvh] at HLI
                  clear hlr hba hvh hlh HPL5 HH5
                  go_wp2_with fail
                  refine HLI.out.mono ?_
                  rintro e wb ⟨rfl, hqb⟩
                  have HPb := Lib.hid (HPa.out.next (hqb.below _))
                  have HHb := Lib.hid (HHa.out.below (hqb.below _))
                  have HUS := Lib.hid (used_any HPb.out.jou)
                  clear hqb HPa HHa HLI
                  go_wp2_with fail
                  refine HUS.out.mono ?_
                  rintro e wc ⟨rfl, rfl⟩
                  try dsimp only
                  try simp only [HUE.out]
                  go_wp2_with fail
                  go_roundw
                  case rel => exact ⟨k + 1, by go_num, by omega, by omega, _, _, rs', _, _, none, rfl, by first | rfl | (rw [HUE.out]) | go_num, rfl, HPb.out, by first | exact HFN.out | omega, HHb.out, rfl⟩
                  case measure => simp [intOf]; omega
                | some b =>
                  obtain ⟨Ab, cb, hu9, hob⟩ := HL5.out
                  subst hu9
                  have HOB := Lib.hid hob
                  have HFB := Lib.hid (HLB.out b rfl)
                  have hnq : ∀ W, (binOp .neq 44 (.slice (some Ab) b.length cb) (.slice none 0 0)).run Try.prog W = .ok (.bool true) W := fun W => neq_nil44 W (some Ab) _ _
                  have hm' : rs.length ≤ 100 := by
                    have := HPL5.out.many
                    rcases h7 with h7 | ⟨b', hb', h7⟩
                    · rw [h7] at this; exact this
                    · rw [h7, List.length_append] at this; omega
                  have H7 := Lib.hid h7
                  clear h7 hob HL5 HLB
                  go_wp2_with fail
                  refine (HPL5.out.records).mono ?_
                  rintro e s6 ⟨Ar, cr, rfl, hlr, hb6⟩
                  have HPL6 := Lib.hid (HPL5.out.next hb6)
                  have HH6 := Lib.hid (HH5.out.below hb6)
                  have HOB6 := Lib.hid (HOB.out.safe (Safe.of_below hb6 none) (fun k e => by cases e))
                  obtain ⟨v1a, t1a, v2a, t3a, Aha, cha, hr1, hr2, hrc, hbc, hvc, hv2, hlc⟩ := join_all HH6.out.1 HOB6.out HPL6.out.below.size (by omega)
                  subst hv2
                  have HR1a := Lib.hid hr1
                  have HR2a := Lib.hid hr2
                  have HPL7 := Lib.hid (HPL6.out.next hbc)
                  have HH7 := Lib.hid (HH6.out.below hbc)
                  have HOB7 := Lib.hid (HOB6.out.safe (Safe.of_below hbc none) (fun k e => by cases e))
                  have hnb : ∀ x ∈ rs ++ [b], isBytes x := by
                    intro x hx
                    rcases List.mem_append.1 hx with hx | hx
                    · have := HPL5.out.nBytes
                      rcases H7.out with h7 | ⟨b', hb', h7⟩
                      · rw [h7] at this; exact this x hx
                      · rw [h7] at this; exact this x (List.mem_append_left _ hx)
                    · rw [List.mem_singleton] at hx; subst hx; exact HFB.out.2.2
                  have HLI := Lib.hid (lists_any Ar Aha rs'.length (rs.length + 1) cr cha _ _ rs' (rs ++ [b]) t3a (hlr.below hbc) hlc HPL5.out.nBytes hnb (by have := HPL5.out.many; omega))
                  clear hlr hb6 hr1 hr2 hrc hbc hvc hlc hnb HPL5 HH5 HOB HPL6 HH6 HOB6
                  rcases H7.out with h7 | ⟨b', hb', h7⟩
                  · obtain rfl : rs = rs' := h7.symm
                    rw [decide_eq_false (by simp)] at HLI
                    clear H7
                    go_wp2_with (first
                      | (at_builtin; refine step_append (v3 := v1a) rfl rfl rfl rfl HR1a.out ?_)
                      | (refine step_list (w := t1a) rfl rfl rfl rfl ?_)
                      | (at_builtin; refine step_append (v3 := .slice Aha (rs.length + 1) cha) rfl rfl rfl rfl HR2a.out ?_))
  
                    refine HLI.out.mono ?_
                    rintro e s8 ⟨rfl, hq8⟩
                    have HPL8 := Lib.hid (HPL7.out.next (hq8.below _))
                    have HH8 := Lib.hid (HH7.out.below (hq8.below _))
                    clear hq8 HPL7 HH7 HOB7 HLI HR1a HR2a
                    go_wp2_with fail
                    refine (HPL8.out.records).mono ?_
                    rintro e wa ⟨Ar, cr, rfl, hlr, hba⟩
                    have HPa := Lib.hid (HPL8.out.next hba)
                    have HHa := Lib.hid (HH8.out.below hba)
                    obtain ⟨Ah, ch, hvh, hlh⟩ := HHa.out.1.lst
                    have HLI := Lib.hid (lists_any Ar Ah (rs).length (rs).length cr ch _ _ _ _ wa hlr hlh HPa.out.nBytes HPa.out.nBytes (by have := HPa.out.many; omega))
                    rw [decide_eq_true rfl, ← hvh] at HLI
                    clear hlr hba hvh hlh HPL8 HH8
                    go_wp2_with fail
                    refine HLI.out.mono ?_
                    rintro e wb ⟨rfl, hqb⟩
                    have HPb := Lib.hid (HPa.out.next (hqb.below _))
                    have HHb := Lib.hid (HHa.out.below (hqb.below _))
                    have HUS := Lib.hid (used_any HPb.out.jou)
                    clear hqb HPa HHa HLI
                    go_wp2_with fail
                    refine HUS.out.mono ?_
                    rintro e wc ⟨rfl, rfl⟩
                    try dsimp only
                    try simp only [HUE.out]
                    go_wp2_with fail
                    go_roundw
                    case rel => exact ⟨k + 1, by go_num, by omega, by omega, _, _, rs, _, _, none, rfl, by first | rfl | (rw [HUE.out]) | go_num, rfl, HPb.out, by first | exact HFN.out | omega, HHb.out, rfl⟩
                    case measure => simp [intOf]; omega
                  · injection hb' with hb'
                    subst hb'
                    rw [decide_eq_true h7] at HLI
                    clear H7
                    have H7 := Lib.hid h7
                    clear h7
                    go_wp2_with (first
                      | (at_builtin; refine step_append (v3 := v1a) rfl rfl rfl rfl HR1a.out ?_)
                      | (refine step_list (w := t1a) rfl rfl rfl rfl ?_)
                      | (at_builtin; refine step_append (v3 := .slice Aha (rs.length + 1) cha) rfl rfl rfl rfl HR2a.out ?_))
  
                    refine HLI.out.mono ?_
                    rintro e s8 ⟨rfl, hq8⟩
                    have HPL8 := Lib.hid (HPL7.out.next (hq8.below _))
                    have HH8 := Lib.hid (HH7.out.below (hq8.below _))
                    have HOB8 := Lib.hid (HOB7.out.safe (Safe.of_below (hq8.below _) none) (fun k e => by cases e))
                    obtain ⟨v1b, t1b, v2b, t3b, Ahb, chb, hr1, hr2, hrc, hbc, hvc, hv2, hlc⟩ := join_all HH8.out.1 HOB8.out HPL8.out.below.size (by omega)
                    subst hv2
                    have HR1b := Lib.hid hr1
                    have HR2b := Lib.hid hr2
                    have HPL9 := Lib.hid (HPL8.out.next hbc)
                    have HH9 := Lib.hid (show HaveOk w t3b v5 (.slice Ahb (rs.length + 1) chb) rs' from ⟨by rw [H7.out]; exact hrc, fun k' hk' e => by
                      have h1 := hvc k' hk'
                      have h2 := (HPL8.out.jou.recs.block k' e).2.1
                      omega⟩)
                    obtain ⟨d, hd⟩ : ∃ d, need b = d := ⟨_, rfl⟩
                    have hdv : ((b.length : Int) + 40) / 41 = (d : Int) := by rw [← hd]; unfold need; omega
                    have hus9 : ((usedBy rs' : Nat) : Int) = (usedBy rs : Int) + (d : Int) := by rw [H7.out, usedBy_snoc, hd]; omega
                    have hfit9 := HPL9.out.fit
                    have hus8 : usedBy rs ≤ 100 ∧ d ≤ 100 := by omega
                    have hbl9 : b.length ≤ 150 := HFB.out.2.1
                    have HDV := Lib.hid hdv
                    have HUE := Lib.hid hus9
                    clear hr1 hr2 hrc hbc hvc hlc hq8 HPL7 HH7 HOB7 HLI HR1a HR2a HPL8 HH8 HOB8 hd hdv hus9
                    go_wp2_with (first
                      | (at_builtin; refine step_append (v3 := v1b) rfl rfl rfl rfl HR1b.out ?_)
                      | (refine step_list (w := t1b) rfl rfl rfl rfl ?_)
                      | (at_builtin; refine step_append (v3 := .slice Ahb (rs.length + 1) chb) rfl rfl rfl rfl HR2b.out ?_))
  
                    simp only [HDV.out]
                    go_wp2_with fail
                    refine (HPL9.out.records).mono ?_
                    rintro e wa ⟨Ar, cr, rfl, hlr, hba⟩
                    have HPa := Lib.hid (HPL9.out.next hba)
                    have HHa := Lib.hid (HH9.out.below hba)
                    obtain ⟨Ah, ch, hvh, hlh⟩ := HHa.out.1.lst
                    have HLI := Lib.hid (lists_any Ar Ah (rs').length (rs').length cr ch _ _ _ _ wa hlr hlh HPa.out.nBytes HPa.out.nBytes (by have := HPa.out.many; omega))
                    rw [decide_eq_true rfl, ← hvh] at HLI
                    clear hlr hba hvh hlh HPL9 HH9
                    go_wp2_with fail
                    refine HLI.out.mono ?_
                    rintro e wb ⟨rfl, hqb⟩
                    have HPb := Lib.hid (HPa.out.next (hqb.below _))
                    have HHb := Lib.hid (HHa.out.below (hqb.below _))
                    have HUS := Lib.hid (used_any HPb.out.jou)
                    clear hqb HPa HHa HLI
                    go_wp2_with fail
                    refine HUS.out.mono ?_
                    rintro e wc ⟨rfl, rfl⟩
                    try dsimp only
                    try simp only [HUE.out]
                    go_wp2_with fail
                    go_roundw
                    case rel => exact ⟨k + 1, by go_num, by omega, by omega, _, _, rs', _, _, none, rfl, by first | rfl | (rw [HUE.out]) | go_num, rfl, HPb.out, by first | exact HFN.out | omega, HHb.out, rfl⟩
                    case measure => simp [intOf]; omega
            · have d1 : (kd == 1) = false := by rw [beq_eq_false_iff_ne]; exact hk1
              by_cases hk2 : kd = 2
              · subst hk2
                as_aux_lemma =>
                  go_wp2_with (first
                    | (with_reducible refine step_alloc 66 z66 Try.zero66 rfl rfl ?_)
                    | (refine step_loadG 66 _ b0 (o0 + k * 4) #[.int .i64 2, .int .i64 nn, .slice A1 n1 c1, .slice A2 n2 c2] rfl rfl rfl HRG.out _ Try.underlying66 rfl 4 Try.size66 rfl ?_)
                    | (refine step_put66 (w := wr) [.int .i64 2, .int .i64 nn, .slice A1 n1 c1, .slice A2 n2 c2] _ _ rfl rfl rfl rfl rfl rfl (one66 _ _ _ _ _ _ _ _) HW.out ?_))

                  obtain ⟨rs', hre⟩ := HPL1.out.reop2
                  have HPS := Lib.hid HPL1.out.pad
                  have HOS := Lib.hid (Off.refl g h w1')

                  -- Snag(0), Mend, Open
                  obtain ⟨ps, hps⟩ : ∃ ps, p = ps := ⟨_, rfl⟩
                  rw [hps] at hre HPS HFA
                  clear hps
                  have HRE := Lib.hid hre
                  have HLB := Lib.hid HPL1.out.lateb
                  clear hre
                  refine (snag_any 0 (by omega) HPS.out).mono ?_
                  rintro e s3 ⟨rfl, hp3, ho3⟩
                  rw [show max (0 : Int) 0 = 0 from rfl] at hp3
                  have HP3 := Lib.hid hp3
                  have HO3 := Lib.hid (HOS.out.trans ho3)
                  clear hp3 ho3 HPS HOS
                  go_wp2_with fail
                  refine (mend_any HP3.out).mono ?_
                  rintro e s4 ⟨rfl, hp4, ho4⟩
                  have HO4 := Lib.hid (HO3.out.trans ho4)
                  have HOPEN := Lib.hid (HPL1.out.open_ hp4 HO4.out HRE.out (by have := HFA.out; omega))
                  have hh4 := HHV1.out.off HPL1.out.pad HO4.out
                  have hl4 := HLT1.out.off HPL1.out.pad HO4.out
                  have hf4 : (({ ps with snag := 0 } : Pd).mend).falls ≤ ((k + 1 : Nat) : Int) := by have := HRE.out.2.2.1; have := HFA.out; omega
                  generalize hq2 : ({ ps with snag := 0 } : Pd).mend = p2 at *
                  clear hq2
                  have HP4 := Lib.hid hp4
                  have HH4 := Lib.hid hh4
                  have HL4 := Lib.hid hl4
                  have HF4 := Lib.hid hf4
                  clear hp4 ho4 hh4 hl4 hf4 HP3 HO3
                  go_wp2_with fail
                  refine HOPEN.out.mono ?_
                  rintro e s5 ⟨j5, v5, rfl, hpl5, ho5, hv5⟩
                  have HPL5 := Lib.hid hpl5
                  have hh5 : HaveOk w s5 v5 u8 rs := ⟨(HH4.out.off HP4.out ho5).1, fun k' hk' e => by
                    have h1 := (HH4.out.1.block k' hk').2.1
                    have h2 := hv5 k' e
                    omega⟩
                  have HH5 := Lib.hid hh5
                  have HL5 := Lib.hid (HL4.out.off HP4.out ho5)
                  have h7 := HRE.out.2.2.2.2.2.2
                  have HFN := Lib.hid (show (padOf (q + 4) p2.falls 0 rs').falls ≤ ((k + 1 : Nat) : Int) from HF4.out)
                  clear hpl5 ho5 hv5 hh5 HOPEN HPL1 HHV1 HLT1 HH4 HL4 HP4 HO4 HRE HF4 x0 x1 x2 x3 HX
                  cases late with
                  | none =>
                    obtain rfl : rs' = rs := by
                      rcases h7 with h7 | ⟨b, hb, _⟩
                      · exact h7
                      · cases hb
                    obtain rfl : u9 = .slice none 0 0 := HL5.out
                    have hnq : ∀ W, (binOp .neq 44 (.slice none 0 0) (.slice none 0 0)).run Try.prog W = .ok (.bool false) W := fun W => neq_nil44 W none 0 0
                    clear h7 HL5
                    go_wp2_with fail
                    refine (HPL5.out.records).mono ?_
                    rintro e wa ⟨Ar, cr, rfl, hlr, hba⟩
                    have HPa := Lib.hid (HPL5.out.next hba)
                    have HHa := Lib.hid (HH5.out.below hba)
                    obtain ⟨Ah, ch, hvh, hlh⟩ := HHa.out.1.lst
                    have HLI := Lib.hid (lists_any Ar Ah (rs').length (rs').length cr ch _ _ _ _ wa hlr hlh HPa.out.nBytes HPa.out.nBytes (by have := HPa.out.many; omega))
                    rw [decide_eq_true rfl, ← hvh] at HLI
                    clear hlr hba hvh hlh HPL5 HH5
                    go_wp2_with fail
                    refine HLI.out.mono ?_
                    rintro e wb ⟨rfl, hqb⟩
                    have HPb := Lib.hid (HPa.out.next (hqb.below _))
                    have HHb := Lib.hid (HHa.out.below (hqb.below _))
                    have HUS := Lib.hid (used_any HPb.out.jou)
                    clear hqb HPa HHa HLI
                    go_wp2_with fail
                    refine HUS.out.mono ?_
                    rintro e wc ⟨rfl, rfl⟩
                    try dsimp only
                    try simp only [HUE.out]
                    go_wp2_with fail
                    go_roundw
                    case rel => exact ⟨k + 1, by go_num, by omega, by omega, _, _, rs', _, _, none, rfl, by first | rfl | (rw [HUE.out]) | go_num, rfl, HPb.out, by first | exact HFN.out | omega, HHb.out, rfl⟩
                    case measure => simp [intOf]; omega
                  | some b =>
                    obtain ⟨Ab, cb, hu9, hob⟩ := HL5.out
                    subst hu9
                    have HOB := Lib.hid hob
                    have HFB := Lib.hid (HLB.out b rfl)
                    have hnq : ∀ W, (binOp .neq 44 (.slice (some Ab) b.length cb) (.slice none 0 0)).run Try.prog W = .ok (.bool true) W := fun W => neq_nil44 W (some Ab) _ _
                    have hm' : rs.length ≤ 100 := by
                      have := HPL5.out.many
                      rcases h7 with h7 | ⟨b', hb', h7⟩
                      · rw [h7] at this; exact this
                      · rw [h7, List.length_append] at this; omega
                    have H7 := Lib.hid h7
                    clear h7 hob HL5 HLB
                    go_wp2_with fail
                    refine (HPL5.out.records).mono ?_
                    rintro e s6 ⟨Ar, cr, rfl, hlr, hb6⟩
                    have HPL6 := Lib.hid (HPL5.out.next hb6)
                    have HH6 := Lib.hid (HH5.out.below hb6)
                    have HOB6 := Lib.hid (HOB.out.safe (Safe.of_below hb6 none) (fun k e => by cases e))
                    obtain ⟨v1a, t1a, v2a, t3a, Aha, cha, hr1, hr2, hrc, hbc, hvc, hv2, hlc⟩ := join_all HH6.out.1 HOB6.out HPL6.out.below.size (by omega)
                    subst hv2
                    have HR1a := Lib.hid hr1
                    have HR2a := Lib.hid hr2
                    have HPL7 := Lib.hid (HPL6.out.next hbc)
                    have HH7 := Lib.hid (HH6.out.below hbc)
                    have HOB7 := Lib.hid (HOB6.out.safe (Safe.of_below hbc none) (fun k e => by cases e))
                    have hnb : ∀ x ∈ rs ++ [b], isBytes x := by
                      intro x hx
                      rcases List.mem_append.1 hx with hx | hx
                      · have := HPL5.out.nBytes
                        rcases H7.out with h7 | ⟨b', hb', h7⟩
                        · rw [h7] at this; exact this x hx
                        · rw [h7] at this; exact this x (List.mem_append_left _ hx)
                      · rw [List.mem_singleton] at hx; subst hx; exact HFB.out.2.2
                    have HLI := Lib.hid (lists_any Ar Aha rs'.length (rs.length + 1) cr cha _ _ rs' (rs ++ [b]) t3a (hlr.below hbc) hlc HPL5.out.nBytes hnb (by have := HPL5.out.many; omega))
                    clear hlr hb6 hr1 hr2 hrc hbc hvc hlc hnb HPL5 HH5 HOB HPL6 HH6 HOB6
                    rcases H7.out with h7 | ⟨b', hb', h7⟩
                    · obtain rfl : rs = rs' := h7.symm
                      rw [decide_eq_false (by simp)] at HLI
                      clear H7
                      go_wp2_with (first
                        | (at_builtin; refine step_append (v3 := v1a) rfl rfl rfl rfl HR1a.out ?_)
                        | (refine step_list (w := t1a) rfl rfl rfl rfl ?_)
                        | (at_builtin; refine step_append (v3 := .slice Aha (rs.length + 1) cha) rfl rfl rfl rfl HR2a.out ?_))
  
                      refine HLI.out.mono ?_
                      rintro e s8 ⟨rfl, hq8⟩
                      have HPL8 := Lib.hid (HPL7.out.next (hq8.below _))
                      have HH8 := Lib.hid (HH7.out.below (hq8.below _))
                      clear hq8 HPL7 HH7 HOB7 HLI HR1a HR2a
                      go_wp2_with fail
                      refine (HPL8.out.records).mono ?_
                      rintro e wa ⟨Ar, cr, rfl, hlr, hba⟩
                      have HPa := Lib.hid (HPL8.out.next hba)
                      have HHa := Lib.hid (HH8.out.below hba)
                      obtain ⟨Ah, ch, hvh, hlh⟩ := HHa.out.1.lst
                      have HLI := Lib.hid (lists_any Ar Ah (rs).length (rs).length cr ch _ _ _ _ wa hlr hlh HPa.out.nBytes HPa.out.nBytes (by have := HPa.out.many; omega))
                      rw [decide_eq_true rfl, ← hvh] at HLI
                      clear hlr hba hvh hlh HPL8 HH8
                      go_wp2_with fail
                      refine HLI.out.mono ?_
                      rintro e wb ⟨rfl, hqb⟩
                      have HPb := Lib.hid (HPa.out.next (hqb.below _))
                      have HHb := Lib.hid (HHa.out.below (hqb.below _))
                      have HUS := Lib.hid (used_any HPb.out.jou)
                      clear hqb HPa HHa HLI
                      go_wp2_with fail
                      refine HUS.out.mono ?_
                      rintro e wc ⟨rfl, rfl⟩
                      try dsimp only
                      try simp only [HUE.out]
                      go_wp2_with fail
                      go_roundw
                      case rel => exact ⟨k + 1, by go_num, by omega, by omega, _, _, rs, _, _, none, rfl, by first | rfl | (rw [HUE.out]) | go_num, rfl, HPb.out, by first | exact HFN.out | omega, HHb.out, rfl⟩
                      case measure => simp [intOf]; omega
                    · injection hb' with hb'
                      subst hb'
                      rw [decide_eq_true h7] at HLI
                      clear H7
                      have H7 := Lib.hid h7
                      clear h7
                      go_wp2_with (first
                        | (at_builtin; refine step_append (v3 := v1a) rfl rfl rfl rfl HR1a.out ?_)
                        | (refine step_list (w := t1a) rfl rfl rfl rfl ?_)
                        | (at_builtin; refine step_append (v3 := .slice Aha (rs.length + 1) cha) rfl rfl rfl rfl HR2a.out ?_))
  
                      refine HLI.out.mono ?_
                      rintro e s8 ⟨rfl, hq8⟩
                      have HPL8 := Lib.hid (HPL7.out.next (hq8.below _))
                      have HH8 := Lib.hid (HH7.out.below (hq8.below _))
                      have HOB8 := Lib.hid (HOB7.out.safe (Safe.of_below (hq8.below _) none) (fun k e => by cases e))
                      obtain ⟨v1b, t1b, v2b, t3b, Ahb, chb, hr1, hr2, hrc, hbc, hvc, hv2, hlc⟩ := join_all HH8.out.1 HOB8.out HPL8.out.below.size (by omega)
                      subst hv2
                      have HR1b := Lib.hid hr1
                      have HR2b := Lib.hid hr2
                      have HPL9 := Lib.hid (HPL8.out.next hbc)
                      have HH9 := Lib.hid (show HaveOk w t3b v5 (.slice Ahb (rs.length + 1) chb) rs' from ⟨by rw [H7.out]; exact hrc, fun k' hk' e => by
                        have h1 := hvc k' hk'
                        have h2 := (HPL8.out.jou.recs.block k' e).2.1
                        omega⟩)
                      obtain ⟨d, hd⟩ : ∃ d, need b = d := ⟨_, rfl⟩
                      have hdv : ((b.length : Int) + 40) / 41 = (d : Int) := by rw [← hd]; unfold need; omega
                      have hus9 : ((usedBy rs' : Nat) : Int) = (usedBy rs : Int) + (d : Int) := by rw [H7.out, usedBy_snoc, hd]; omega
                      have hfit9 := HPL9.out.fit
                      have hus8 : usedBy rs ≤ 100 ∧ d ≤ 100 := by omega
                      have hbl9 : b.length ≤ 150 := HFB.out.2.1
                      have HDV := Lib.hid hdv
                      have HUE := Lib.hid hus9
                      clear hr1 hr2 hrc hbc hvc hlc hq8 HPL7 HH7 HOB7 HLI HR1a HR2a HPL8 HH8 HOB8 hd hdv hus9
                      go_wp2_with (first
                        | (at_builtin; refine step_append (v3 := v1b) rfl rfl rfl rfl HR1b.out ?_)
                        | (refine step_list (w := t1b) rfl rfl rfl rfl ?_)
                        | (at_builtin; refine step_append (v3 := .slice Ahb (rs.length + 1) chb) rfl rfl rfl rfl HR2b.out ?_))
  
                      simp only [HDV.out]
                      go_wp2_with fail
                      refine (HPL9.out.records).mono ?_
                      rintro e wa ⟨Ar, cr, rfl, hlr, hba⟩
                      have HPa := Lib.hid (HPL9.out.next hba)
                      have HHa := Lib.hid (HH9.out.below hba)
                      obtain ⟨Ah, ch, hvh, hlh⟩ := HHa.out.1.lst
                      have HLI := Lib.hid (lists_any Ar Ah (rs').length (rs').length cr ch _ _ _ _ wa hlr hlh HPa.out.nBytes HPa.out.nBytes (by have := HPa.out.many; omega))
                      rw [decide_eq_true rfl, ← hvh] at HLI
                      clear hlr hba hvh hlh HPL9 HH9
                      go_wp2_with fail
                      refine HLI.out.mono ?_
                      rintro e wb ⟨rfl, hqb⟩
                      have HPb := Lib.hid (HPa.out.next (hqb.below _))
                      have HHb := Lib.hid (HHa.out.below (hqb.below _))
                      have HUS := Lib.hid (used_any HPb.out.jou)
                      clear hqb HPa HHa HLI
                      go_wp2_with fail
                      refine HUS.out.mono ?_
                      rintro e wc ⟨rfl, rfl⟩
                      try dsimp only
                      try simp only [HUE.out]
                      go_wp2_with fail
                      go_roundw
                      case rel => exact ⟨k + 1, by go_num, by omega, by omega, _, _, rs', _, _, none, rfl, by first | rfl | (rw [HUE.out]) | go_num, rfl, HPb.out, by first | exact HFN.out | omega, HHb.out, rfl⟩
                      case measure => simp [intOf]; omega
              · have d2 : (kd == 2) = false := by rw [beq_eq_false_iff_ne]; exact hk2
                by_cases hk3 : kd = 3
                · subst hk3
                  as_aux_lemma =>
                    obtain ⟨un, t6, hun, gun, _, ht6, t61⟩ := u64_rest nn 6 (by omega)
                    go_wp2_with (first
                      | (with_reducible refine step_alloc 66 z66 Try.zero66 rfl rfl ?_)
                      | (refine step_loadG 66 _ b0 (o0 + k * 4) #[.int .i64 3, .int .i64 nn, .slice A1 n1 c1, .slice A2 n2 c2] rfl rfl rfl HRG.out _ Try.underlying66 rfl 4 Try.size66 rfl ?_)
                      | (refine step_put66 (w := wr) [.int .i64 3, .int .i64 nn, .slice A1 n1 c1, .slice A2 n2 c2] _ _ rfl rfl rfl rfl rfl rfl (one66 _ _ _ _ _ _ _ _) HW.out ?_))

                    refine (HPL1.out.snag (1 + (t6 : Int)) (by omega) (by omega)).mono ?_
                    rintro e s2 ⟨rfl, p2, hpl2, hf2, ho2⟩
                    have HPL2 := Lib.hid hpl2
                    have HH2 := Lib.hid (HHV1.out.off HPL1.out.pad ho2)
                    have HL2 := Lib.hid (HLT1.out.off HPL1.out.pad ho2)
                    have HFN := Lib.hid (show p2.falls ≤ ((k + 1 : Nat) : Int) from by rw [hf2]; have := HFA.out; omega)
                    clear hpl2 hf2 ho2 hun ht6 HPL1 HHV1 HLT1 x0 x1 x2 x3 HX
                    cases late with
                    | none =>
                      obtain rfl : u9 = .slice none 0 0 := HL2.out
                      clear HL2
                      try simp only [Option.isSome_none]
                      go_wp2_with fail
                      refine (HPL2.out.records).mono ?_
                      rintro e wa ⟨Ar, cr, rfl, hlr, hba⟩
                      have HPa := Lib.hid (HPL2.out.next hba)
                      have HHa := Lib.hid (HH2.out.below hba)
                      obtain ⟨Ah, ch, hvh, hlh⟩ := HHa.out.1.lst
                      have HLI := Lib.hid (lists_any Ar Ah (rs).length (rs).length cr ch _ _ _ _ wa hlr hlh HPa.out.nBytes HPa.out.nBytes (by have := HPa.out.many; omega))
                      rw [decide_eq_true rfl, ← hvh] at HLI
                      clear hlr hba hvh hlh HPL2 HH2
                      go_wp2_with fail
                      refine HLI.out.mono ?_
                      rintro e wb ⟨rfl, hqb⟩
                      have HPb := Lib.hid (HPa.out.next (hqb.below _))
                      have HHb := Lib.hid (HHa.out.below (hqb.below _))
                      have HUS := Lib.hid (used_any HPb.out.jou)
                      clear hqb HPa HHa HLI
                      go_wp2_with fail
                      refine HUS.out.mono ?_
                      rintro e wc ⟨rfl, rfl⟩
                      try dsimp only
                      try simp only [HUE.out]
                      go_wp2_with fail
                      go_roundw
                      case rel => exact ⟨k + 1, by go_num, by omega, by omega, _, _, rs, _, _, none, rfl, by first | rfl | (rw [HUE.out]) | go_num, rfl, HPb.out, by first | exact HFN.out | omega, HHb.out, rfl⟩
                      case measure => simp [intOf]; omega

                    | some b =>
                      try simp only [Option.isSome_some]
                      go_wp2_with fail
                      go_roundw
                      case rel => exact ⟨k + 1, by go_num, by omega, by omega, j, F, rs, v, p2, some b, rfl, rfl, rfl, HPL2.out, HFN.out, HH2.out, HL2.out⟩
                      case measure => simp [intOf]; omega
                · have d3 : (kd == 3) = false := by rw [beq_eq_false_iff_ne]; exact hk3
                  as_aux_lemma =>
                    have hby := isBytes_of_wf HK1.out.wf_
                    have hnm := HK1.out.nums
                    have hnil := HK1.out.nil_
                    obtain ⟨b, hb⟩ : ∃ b, z1.take n1 = b := ⟨_, rfl⟩
                    rw [hb] at hby hnm
                    obtain ⟨d, hd⟩ : ∃ d, need b = d := ⟨_, rfl⟩
                    have hbl := hnm.len
                    have hdv : ((n1 : Int) + 40) / 41 = (d : Int) := by rw [← hd]; unfold need; omega
                    have HBY := Lib.hid hby
                    have HNM := Lib.hid hnm
                    have HNIL := Lib.hid hnil
                    have HD := Lib.hid hd
                    have HBLN := Lib.hid hbl
                    have HDV := Lib.hid hdv
                    have hd5 : d ≤ 4 := by omega
                    clear hb hby hnm hnil hd hbl hdv
                    go_wp2_with (first
                      | (with_reducible refine step_alloc 66 z66 Try.zero66 rfl rfl ?_)
                      | (refine step_loadG 66 _ b0 (o0 + k * 4) #[.int .i64 kd, .int .i64 nn, .slice A1 n1 c1, .slice A2 n2 c2] rfl rfl rfl HRG.out _ Try.underlying66 rfl 4 Try.size66 rfl ?_)
                      | (refine step_put66 (w := wr) [.int .i64 kd, .int .i64 nn, .slice A1 n1 c1, .slice A2 n2 c2] _ _ rfl rfl rfl rfl rfl rfl (one66 _ _ _ _ _ _ _ _) HW.out ?_))

                    refine (ownByte_any A1 n1 c1 w.heap.size b 71 w1' (HNM.out.below HPL1.out.below) HNIL.out HPL1.out.below.size (by omega)).mono ?_
                    rintro e s2 ⟨rfl, ho2, hb2⟩
                    have HOW2 := Lib.hid ho2
                    have HPL2 := Lib.hid (HPL1.out.next hb2)
                    have HH2 := Lib.hid (HHV1.out.below hb2)
                    have HL2 := Lib.hid (HLT1.out.below hb2)
                    have HX2 := Lib.hid (HX.out.below hb2 HX.out.lt)
                    clear ho2 hb2 HPL1 HHV1 HLT1 HX x0 x1 x2 x3
                    cases late with
                    | some b' =>
                      try simp only [Option.isSome_some]
                      go_wp2_with fail
                      refine (add_down (some ⟨w1'.heap.size, 0, none⟩) n1 (n1 + 3) HPL2.out.jou HPL2.out.pad HPL2.out.down).mono ?_
                      rintro e s3 ⟨rfl, hb3⟩
                      have HPL3 := Lib.hid (HPL2.out.next hb3)
                      have HH3 := Lib.hid (HH2.out.below hb3)
                      have HL3 := Lib.hid (HL2.out.below hb3)
                      have HX3 := Lib.hid (HX2.out.below hb3 HX2.out.lt)
                      have HOW3 := Lib.hid (HOW2.out.below hb3 HOW2.out.lt)
                      have x2 : s3.cell? ⟨wr.heap.size, 2, none⟩ = some (.slice A1 n1 c1) := by rw [HX3.out.cell]; rfl
                      clear hb3 HPL2 HH2 HL2 HX2 HOW2
                      go_wp2_with fail
                      refine (keptByte_any w1'.heap.size A1 n1 c1 w.heap.size b 71 s3 HOW3.out (HNM.out.below HPL3.out.below) (by omega)).mono ?_
                      rintro e sk ⟨rfl, hqk⟩
                      have HPK := Lib.hid (HPL3.out.next (hqk.below _))
                      have HHK := Lib.hid (HH3.out.below (hqk.below _))
                      have HLK := Lib.hid (HL3.out.below (hqk.below _))
                      have HXK := Lib.hid (HX3.out.below (hqk.below _) HX3.out.lt)
                      clear hqk

                      go_wp2_with fail
                      go_roundw
                      case rel => exact ⟨k + 1, by go_num, by omega, by omega, j, F, rs, v, p, some b', rfl, rfl, rfl, HPK.out, by have := HFA.out; omega, HHK.out, HLK.out⟩
                      case measure => simp [intOf]; omega
                    | none =>
                      obtain rfl : u9 = .slice none 0 0 := HL2.out
                      try simp only [Option.isSome_none]
                      have hdn : p.down = false := HPL2.out.down
                      have hfl := HPL2.out.falls
                      have hlen := HPL2.out.len
                      have HFN := Lib.hid (show p.falls ≤ ((k + 1 : Nat) : Int) from by have := HFA.out; omega)
                      have hfit0 := HPL2.out.fit
                      have HDN := Lib.hid hdn
                      have HFL := Lib.hid hfl
                      have HLEN := Lib.hid hlen
                      clear hdn hfl hlen
                      by_cases hz : n1 = 0
                      · have hadd : Calls Try.prog 37 #[.pointer (some ⟨j, 0, none⟩), .slice (some ⟨w1'.heap.size, 0, none⟩) n1 (n1 + 3)] s2 (fun e w' => e = .returned (.int .i64 1) ∧ Below s2.heap.size s2 w') := by
                          rw [hz]
                          exact add_empty _ _ HPL2.out.jou HPL2.out.pad HDN.out HFL.out
                        have HADD := Lib.hid hadd
                        have hz0 : ((n1 : Int) == 0) = true := by rw [hz]; rfl
                        clear hz
                        clear hadd
                        go_wp2_with fail
                        refine HADD.out.mono ?_
                        rintro e s3 ⟨rfl, hb3⟩
                        have HPL3 := Lib.hid (HPL2.out.next hb3)
                        have HH3 := Lib.hid (HH2.out.below hb3)
                        have HL3 := Lib.hid (HL2.out.below hb3)
                        have HX3 := Lib.hid (HX2.out.below hb3 HX2.out.lt)
                        have HOW3 := Lib.hid (HOW2.out.below hb3 HOW2.out.lt)
                        have x2 : s3.cell? ⟨wr.heap.size, 2, none⟩ = some (.slice A1 n1 c1) := by rw [HX3.out.cell]; rfl
                        clear hb3 HPL2 HH2 HL2 HX2 HOW2 HADD
                        go_wp2_with fail
                        refine (keptByte_any w1'.heap.size A1 n1 c1 w.heap.size b 71 s3 HOW3.out (HNM.out.below HPL3.out.below) (by omega)).mono ?_
                        rintro e sk ⟨rfl, hqk⟩
                        have HPK := Lib.hid (HPL3.out.next (hqk.below _))
                        have HHK := Lib.hid (HH3.out.below (hqk.below _))
                        have HLK := Lib.hid (HL3.out.below (hqk.below _))
                        have HXK := Lib.hid (HX3.out.below (hqk.below _) HX3.out.lt)
                        clear hqk
                        go_wp2_with fail
                        refine (down_is HPK.out.pad HDN.out).mono ?_
                        rintro e sd ⟨rfl, rfl⟩
                        go_wp2_with fail
                        refine (HPK.out.records).mono ?_
                        rintro e wa ⟨Ar, cr, rfl, hlr, hba⟩
                        have HPa := Lib.hid (HPK.out.next hba)
                        have HHa := Lib.hid (HHK.out.below hba)
                        obtain ⟨Ah, ch, hvh, hlh⟩ := HHa.out.1.lst
                        have HLI := Lib.hid (lists_any Ar Ah (rs).length (rs).length cr ch _ _ _ _ wa hlr hlh HPa.out.nBytes HPa.out.nBytes (by have := HPa.out.many; omega))
                        rw [decide_eq_true rfl, ← hvh] at HLI
                        clear hlr hba hvh hlh HPK HHK
                        go_wp2_with fail
                        refine HLI.out.mono ?_
                        rintro e wb ⟨rfl, hqb⟩
                        have HPb := Lib.hid (HPa.out.next (hqb.below _))
                        have HHb := Lib.hid (HHa.out.below (hqb.below _))
                        have HUS := Lib.hid (used_any HPb.out.jou)
                        clear hqb HPa HHa HLI
                        go_wp2_with fail
                        refine HUS.out.mono ?_
                        rintro e wc ⟨rfl, rfl⟩
                        try dsimp only
                        try simp only [HUE.out]
                        go_wp2_with fail
                        go_roundw
                        case rel => exact ⟨k + 1, by go_num, by omega, by omega, _, _, rs, _, _, none, rfl, by first | rfl | (rw [HUE.out]) | go_num, rfl, HPb.out, by first | exact HFN.out | omega, HHb.out, rfl⟩
                        case measure => simp [intOf]; omega
                      · have hz0 : ((n1 : Int) == 0) = false := by rw [beq_eq_false_iff_ne]; omega
                        by_cases hfull : q + 4 < usedBy rs + d
                        · have hadd := add_full (some ⟨w1'.heap.size, 0, none⟩) n1 (n1 + 3) HPL2.out.jou HPL2.out.pad HDN.out HFL.out (by omega) (by omega) (by rw [HLEN.out]; have := HDV.out; show q + 4 < usedBy rs + (n1 + 40) / 41; omega)
                          have HADD := Lib.hid hadd
                          clear hadd
                          go_wp2_with fail
                          refine HADD.out.mono ?_
                          rintro e s3 ⟨rfl, hb3⟩
                          have HPL3 := Lib.hid (HPL2.out.next hb3)
                          have HH3 := Lib.hid (HH2.out.below hb3)
                          have HL3 := Lib.hid (HL2.out.below hb3)
                          have HX3 := Lib.hid (HX2.out.below hb3 HX2.out.lt)
                          have HOW3 := Lib.hid (HOW2.out.below hb3 HOW2.out.lt)
                          have x2 : s3.cell? ⟨wr.heap.size, 2, none⟩ = some (.slice A1 n1 c1) := by rw [HX3.out.cell]; rfl
                          clear hb3 HPL2 HH2 HL2 HX2 HOW2 HADD
                          go_wp2_with fail
                          refine (len_any HPL3.out.pad).mono ?_
                          rintro e sl ⟨rfl, rfl⟩
                          rw [HLEN.out]
                          try simp only [HDV.out]
                          have hgt1 : decide (((q + 4 : Nat) : Int) < (usedBy rs : Int) + (d : Int)) = true := decide_eq_true (by omega)
                          have hgt2 : decide ((q : Int) + 4 < (usedBy rs : Int) + (d : Int)) = true := decide_eq_true (by omega)
                          have hus7 : usedBy rs ≤ 100 := by omega
                          go_wp2_with fail
                          refine (keptByte_any w1'.heap.size A1 n1 c1 w.heap.size b 71 s3 HOW3.out (HNM.out.below HPL3.out.below) (by omega)).mono ?_
                          rintro e sk ⟨rfl, hqk⟩
                          have HPK := Lib.hid (HPL3.out.next (hqk.below _))
                          have HHK := Lib.hid (HH3.out.below (hqk.below _))
                          have HLK := Lib.hid (HL3.out.below (hqk.below _))
                          have HXK := Lib.hid (HX3.out.below (hqk.below _) HX3.out.lt)
                          clear hqk
                          go_wp2_with fail
                          refine (down_is HPK.out.pad HDN.out).mono ?_
                          rintro e sd ⟨rfl, rfl⟩
                          go_wp2_with fail
                          refine (HPK.out.records).mono ?_
                          rintro e wa ⟨Ar, cr, rfl, hlr, hba⟩
                          have HPa := Lib.hid (HPK.out.next hba)
                          have HHa := Lib.hid (HHK.out.below hba)
                          obtain ⟨Ah, ch, hvh, hlh⟩ := HHa.out.1.lst
                          have HLI := Lib.hid (lists_any Ar Ah (rs).length (rs).length cr ch _ _ _ _ wa hlr hlh HPa.out.nBytes HPa.out.nBytes (by have := HPa.out.many; omega))
                          rw [decide_eq_true rfl, ← hvh] at HLI
                          clear hlr hba hvh hlh HPK HHK
                          go_wp2_with fail
                          refine HLI.out.mono ?_
                          rintro e wb ⟨rfl, hqb⟩
                          have HPb := Lib.hid (HPa.out.next (hqb.below _))
                          have HHb := Lib.hid (HHa.out.below (hqb.below _))
                          have HUS := Lib.hid (used_any HPb.out.jou)
                          clear hqb HPa HHa HLI
                          go_wp2_with fail
                          refine HUS.out.mono ?_
                          rintro e wc ⟨rfl, rfl⟩
                          try dsimp only
                          try simp only [HUE.out]
                          go_wp2_with fail
                          go_roundw
                          case rel => exact ⟨k + 1, by go_num, by omega, by omega, _, _, rs, _, _, none, rfl, by first | rfl | (rw [HUE.out]) | go_num, rfl, HPb.out, by first | exact HFN.out | omega, HHb.out, rfl⟩
                          case measure => simp [intOf]; omega
                        · obtain ⟨ad1, hA1, _, _⟩ := HNM.out.2 (by omega)
                          subst hA1
                          have hon := own_nums HOW2.out
                          rw [HBLN.out] at hon
                          have hadd := HPL2.out.add w1'.heap.size n1 (n1 + 3) b 5 _ hon HOW2.out (by omega) (by unfold maxLen; omega) HBY.out (by omega) (by omega) (by have := HFN.out; omega) (by rw [HD.out]; omega)
                          have HADD := Lib.hid hadd
                          have hgt1 : decide (((q + 4 : Nat) : Int) < (usedBy rs : Int) + (d : Int)) = false := decide_eq_false (by omega)
                          have hgt2 : decide ((q : Int) + 4 < (usedBy rs : Int) + (d : Int)) = false := decide_eq_false (by omega)
                          have hus7 : usedBy rs ≤ 100 := by omega
                          clear hadd hon
                          go_wp2_with fail
                          refine HADD.out.mono ?_
                          rintro e s3 (⟨rfl, v3, p3, hpl3, hf3, hv3, hsf3, hsz3⟩ | ⟨rfl, p3, hpl3, hf3, hsf3, hsz3⟩)
                          · have HPL3 := Lib.hid hpl3
                            have HRH := Lib.hid (HH2.out.safe HPL2.out hsf3)
                            have HX3 := Lib.hid (HPL2.out.blk hsf3 HX2.out (by decide) (by decide) (by decide) (by decide))
                            have HOW3 := Lib.hid (HPL2.out.blk hsf3 HOW2.out (by decide) (by decide) (by decide) (by decide))
                            have hdn3 : p3.down = false := HPL3.out.down
                            have HDN3 := Lib.hid hdn3
                            have HLEN3 := Lib.hid HPL3.out.len'
                            have HFN3 := Lib.hid (show p3.falls ≤ ((k + 1 : Nat) : Int) from by rw [hf3]; exact HFN.out)
                            have hm3 := HPL3.out.many
                            rw [List.length_append, List.length_singleton] at hm3
                            have x2 : s3.cell? ⟨wr.heap.size, 2, none⟩ = some (.slice (some ad1) n1 c1) := by rw [HX3.out.cell]; rfl
                            clear hpl3 hf3 hv3 hsf3 hsz3 hdn3 HPL2 HH2 HL2 HX2 HOW2 HADD HFN HDN HFL HLEN
                            go_wp2_with fail
                            refine (len_any HPL3.out.pad).mono ?_
                            rintro e sl ⟨rfl, rfl⟩
                            rw [HLEN3.out]
                            try simp only [HDV.out]
                            go_wp2_with fail
                            refine (down_is HPL3.out.pad HDN3.out).mono ?_
                            rintro e sl ⟨rfl, rfl⟩
                            go_wp2_with fail
                            refine (keptByte_any w1'.heap.size (some ad1) n1 c1 w.heap.size b 71 s3 HOW3.out (HNM.out.below HPL3.out.below) (by omega)).mono ?_
                            rintro e sk ⟨rfl, hqk⟩
                            have HPK := Lib.hid (HPL3.out.next (hqk.below _))
                            have HRK := Lib.hid (HRH.out.safe (Safe.of_below (hqk.below _) none) (.inl rfl))
                            have HXK := Lib.hid (HX3.out.below (hqk.below _) HX3.out.lt)
                            clear hqk x2 HPL3 HRH HX3 HOW3
                            go_wp2_with fail
                            have hdr : Below sk.heap.size sk sk.drew := (Below.refl _ _).drew
                            obtain ⟨CC, hCC⟩ : ∃ CC : World → Prop, CC = fun W' => W'.cell? ⟨wr.heap.size, 2, none⟩ = some (.slice (some ad1) n1 c1) := ⟨_, rfl⟩
                            have hC0 : CC sk.drew := by
                              rw [hCC]
                              show sk.drew.cell? ⟨wr.heap.size, 2, none⟩ = _
                              rw [HXK.out.drew.cell]; rfl
                            have hCb : ∀ w1 w2, Below sk.heap.size w1 w2 → CC w1 → CC w2 := by
                              intro w1 w2 hbl hc
                              rw [hCC] at hc ⊢
                              exact (hbl.cell (p := ⟨_, _, _⟩) HXK.out.lt).trans hc
                            obtain ⟨v1, t1, hr1, hrc1, hb1, hv1⟩ := copy_run 58 (HRK.out.safe (Safe.of_below hdr none) (.inl rfl)) HPK.out.below.size (by omega)
                            have hb01 := hdr.trans hb1
                            have HPT1 := Lib.hid (HPK.out.next hb01)
                            have HR1 := Lib.hid hr1
                            refine wp_region_TN 12 (fun _ w1 w2 => CC w1 → CC w2) (by kernel_rfl) rfl ?_
                            refine T_calmD 0 112 (u8) rfl rfl rfl (by kernel_rfl) (by kernel_rfl) (by kernel_rfl) (fun _ _ _ h => onlyN_panic h) (fun _ h => h) (fun w1 => by go_simp) ?_
                            simp only [List.setIfInBounds_toArray, List.set_cons_succ, List.set_cons_zero]
                            refine T_calmD 2 114 (.pointer (some ⟨wr.heap.size, 2, none⟩)) rfl rfl rfl (by kernel_rfl) (by kernel_rfl) (by kernel_rfl) (fun _ _ _ h => onlyN_panic h) (fun _ h => h) (fun w1 => by go_simp) ?_
                            simp only [List.setIfInBounds_toArray, List.set_cons_succ, List.set_cons_zero]
                            refine T_takeD CC 3 115 (.slice (some ad1) n1 c1) rfl rfl rfl (by kernel_rfl) (by kernel_rfl) (by kernel_rfl) (fun _ _ _ h => onlyN_panic h) (fun _ h => h) (fun _ _ _ _ _ _ _ hk hc => hk hc) hC0 (fun w1 hc => by rw [hCC] at hc; go_simp) ?_
                            simp only [List.setIfInBounds_toArray, List.set_cons_succ, List.set_cons_zero]
                            refine T_calmD 7 119 (.int .i64 (usedBy rs : Nat)) rfl rfl rfl (by kernel_rfl) (by kernel_rfl) (by kernel_rfl) (fun _ _ _ h => onlyN_panic h) (fun _ h => h) (fun w1 => by go_simp) ?_
                            simp only [List.setIfInBounds_toArray, List.set_cons_succ, List.set_cons_zero]
                            refine T_calmD 8 120 (.int .i64 (d : Nat)) rfl rfl rfl (by kernel_rfl) (by kernel_rfl) (by kernel_rfl) (fun _ _ _ h => onlyN_panic h) (fun _ h => h) (fun w1 => by go_simp) ?_
                            simp only [List.setIfInBounds_toArray, List.set_cons_succ, List.set_cons_zero]
                            refine T_calmD 9 121 (.int .i64 ((usedBy rs : Int) + (d : Int))) rfl rfl rfl (by kernel_rfl) (by kernel_rfl) (by kernel_rfl) (fun _ _ _ h => onlyN_panic h) (fun _ h => h) (fun w1 => by go_simp; simp only [IntKind.wrap_i64]; omega) ?_
                            simp only [List.setIfInBounds_toArray, List.set_cons_succ, List.set_cons_zero]
                            refine T_one 1 (by kernel_rfl) (sOp_valueD 113 v1 t1 rfl rfl rfl (exec_append rfl rfl rfl HR1.out) ?_)
                            refine ⟨hCb _ _ hb1, ?_⟩
                            simp only [List.setIfInBounds_toArray, List.set_cons_succ, List.set_cons_zero]
                            refine T_one 4 (by kernel_rfl) ?_
                            refine sOp_callD 116 42 #[.slice (some ad1) n1 c1] rfl rfl rfl (by go_simp) ?_
                            refine (copyB_any ad1 n1 c1 w.heap.size b _ (HNM.out.below HPT1.out.below) (by omega) (by omega)).mono ?_
                            rintro e t2 ⟨vb, rfl, hob, hb2⟩
                            obtain ⟨gb, cb, hvb, _, _⟩ := World.ownsRow.form hob (by have := HBLN.out; omega)
                            subst hvb
                            refine ⟨_, rfl, hCb _ _ (hb2.mono hb01.size), ?_⟩
                            simp only [List.setIfInBounds_toArray, List.set_cons_succ, List.set_cons_zero]
                            have hb3 : Below t2.heap.size t2 (t2.alloc (.cells #[.slice (some ⟨gb, 0, none⟩) b.length cb] 44)) := (Below.refl _ _).alloc (Nat.le_refl _) _
                            have hb02 := hb01.trans (hb2.mono hb01.size)
                            have hb03 := hb02.trans (hb3.mono hb02.size)
                            obtain ⟨v2, t4, Ah, ch, hr2, hrc4, hb04, hv2, hvv⟩ := join_end (s := sk) hb03 ((hrc1.safe (Safe.of_below hb2 none) (.inl rfl)).safe (Safe.of_below hb3 none) (.inl rfl)) hv1 (own_base (hob.safe (Safe.of_below hb3 none) (fun k e => by cases e)) HPT1.out.below.size) (Blk.new t2 44 _) HPK.out.below.size (by omega)
                            subst hvv
                            refine T_one 5 (by kernel_rfl) (sOp_valueD 117 (.slice (some ⟨t2.heap.size, 0, none⟩) 1 1) _ rfl rfl rfl (exec_list rfl rfl) ?_)
                            refine ⟨hCb _ _ (hb3.mono hb02.size), ?_⟩
                            simp only [List.setIfInBounds_toArray, List.set_cons_succ, List.set_cons_zero]
                            refine T_one 6 (by kernel_rfl) (sOp_valueD 118 (.slice Ah (rs.length + 1) ch) t4 rfl rfl rfl (exec_append rfl rfl rfl hr2) ?_)
                            refine ⟨fun _ => ?_, ?_⟩
                            · rw [hCC]
                              exact (hb04.cell (p := ⟨wr.heap.size, 2, none⟩) HXK.out.lt).trans (by rw [HXK.out.cell]; rfl)
                            simp only [List.setIfInBounds_toArray, List.set_cons_succ, List.set_cons_zero]
                            refine T_calmD 10 8 (.slice Ah (rs.length + 1) ch) rfl rfl rfl (by kernel_rfl) (by kernel_rfl) (by kernel_rfl) (fun _ _ _ h => onlyN_panic h) (fun _ h => h) (fun w1 => by go_simp) ?_
                            simp only [List.setIfInBounds_toArray, List.set_cons_succ, List.set_cons_zero]
                            refine T_calmD 11 10 (.int .i64 ((usedBy rs : Int) + (d : Int))) rfl rfl rfl (by kernel_rfl) (by kernel_rfl) (by kernel_rfl) (fun _ _ _ h => onlyN_panic h) (fun _ h => h) (fun w1 => by go_simp) ?_
                            simp only [List.setIfInBounds_toArray, List.set_cons_succ, List.set_cons_zero]
                            refine T_done (by kernel_rfl) ?_
                            refine ⟨rfl, ?_⟩
                            have HPZ := Lib.hid (HPK.out.next hb04)
                            have HHZ := Lib.hid (show HaveOk w t4 v3 (.slice Ah (rs.length + 1) ch) (rs ++ [b]) from ⟨hrc4, fun k' hk' e => by
                              have h1 := hv2 k' hk'
                              have h2 := (HPK.out.jou.recs.block k' e).2.1
                              omega⟩)
                            have HUE := Lib.hid (show ((usedBy (rs ++ [b]) : Nat) : Int) = (usedBy rs : Int) + (d : Int) from by rw [usedBy_snoc, HD.out]; omega)
                            have HFN := Lib.hid HFN3.out
                            obtain ⟨rs2, hrs2⟩ : ∃ rs2, rs ++ [b] = rs2 := ⟨_, rfl⟩
                            rw [hrs2] at HPZ HHZ HUE
                            clear hrs2 hdr hCC hC0 hCb hr1 hrc1 hb1 hv1 hb01 HPT1 HR1 hob hb2 hb3 hb02 hb03 hr2 hrc4 hb04 hv2 HPK HRK HXK
                            go_wp2_with fail
                            refine (down_is HPZ.out.pad HDN3.out).mono ?_
                            rintro e sd ⟨rfl, rfl⟩
                            go_wp2_with fail
                            refine (HPZ.out.records).mono ?_
                            rintro e wa ⟨Ar, cr, rfl, hlr, hba⟩
                            have HPa := Lib.hid (HPZ.out.next hba)
                            have HHa := Lib.hid (HHZ.out.below hba)
                            obtain ⟨Ah, ch, hvh, hlh⟩ := HHa.out.1.lst
                            have HLI := Lib.hid (lists_any Ar Ah (rs2).length (rs2).length cr ch _ _ _ _ wa hlr hlh HPa.out.nBytes HPa.out.nBytes (by have := HPa.out.many; omega))
                            rw [decide_eq_true rfl, ← hvh] at HLI
                            clear hlr hba hvh hlh HPZ HHZ
                            go_wp2_with fail
                            refine HLI.out.mono ?_
                            rintro e wb ⟨rfl, hqb⟩
                            have HPb := Lib.hid (HPa.out.next (hqb.below _))
                            have HHb := Lib.hid (HHa.out.below (hqb.below _))
                            have HUS := Lib.hid (used_any HPb.out.jou)
                            clear hqb HPa HHa HLI
                            go_wp2_with fail
                            refine HUS.out.mono ?_
                            rintro e wc ⟨rfl, rfl⟩
                            try dsimp only
                            try simp only [HUE.out]
                            go_wp2_with fail
                            go_roundw
                            case rel => exact ⟨k + 1, by go_num, by omega, by omega, _, _, rs2, _, _, none, rfl, by first | rfl | (rw [HUE.out]) | go_num, rfl, HPb.out, by first | exact HFN.out | omega, HHb.out, rfl⟩
                            case measure => simp [intOf]; omega
                          · have HPL3 := Lib.hid hpl3
                            have HH3 := Lib.hid (show HaveOk w s3 v u8 rs from ⟨HH2.out.1.safe hsf3 (.inl rfl), HH2.out.2⟩)
                            have HX3 := Lib.hid (hsf3 _ _ _ (by decide) (by decide) (by decide) (by simp) HX2.out)
                            have HOW3 := Lib.hid (hsf3 _ _ _ (by decide) (by decide) (by decide) (by simp) HOW2.out)
                            have hdn3 : p3.down = true := HPL3.out.down
                            have HDN3 := Lib.hid hdn3
                            have HLEN3 := Lib.hid HPL3.out.len'
                            have HFN3 := Lib.hid (show p3.falls ≤ ((k + 1 : Nat) : Int) from by rw [hf3]; have := HFA.out; omega)
                            have x2 : s3.cell? ⟨wr.heap.size, 2, none⟩ = some (.slice (some ad1) n1 c1) := by rw [HX3.out.cell]; rfl
                            clear hpl3 hf3 hsf3 hsz3 hdn3 HPL2 HH2 HL2 HX2 HOW2 HADD
                            go_wp2_with fail
                            refine (len_any HPL3.out.pad).mono ?_
                            rintro e sl ⟨rfl, rfl⟩
                            rw [HLEN3.out]
                            try simp only [HDV.out]
                            go_wp2_with fail
                            refine (down_is HPL3.out.pad HDN3.out).mono ?_
                            rintro e sl ⟨rfl, rfl⟩
                            go_wp2_with fail
                            refine (copyB_any ad1 n1 c1 w.heap.size b _ (HNM.out.below HPL3.out.below) (by omega) (by omega)).mono ?_
                            rintro e s4 ⟨vb, rfl, hob, hb4⟩
                            have hfrm := World.ownsRow.form hob (by have := HBLN.out; omega)
                            obtain ⟨gb, cb, rfl, _, _⟩ := hfrm
                            have HPL4 := Lib.hid (HPL3.out.next hb4)
                            have HH4 := Lib.hid (HH3.out.below hb4)
                            have HL4 := Lib.hid (show LateOk w s4 (some b) (.slice (some ⟨gb, 0, none⟩) b.length cb) from ⟨_, _, rfl, own_base hob HPL3.out.below.size⟩)
                            have HX4 := Lib.hid (HX3.out.below hb4 HX3.out.lt)
                            have HOW4 := Lib.hid (HOW3.out.below hb4 HOW3.out.lt)
                            have x2' : s4.cell? ⟨wr.heap.size, 2, none⟩ = some (.slice (some ad1) n1 c1) := by rw [HX4.out.cell]; rfl
                            clear x2 hob hb4 HPL3 HH3 HX3 HOW3
                            go_wp2_with fail
                            refine (keptByte_any w1'.heap.size (some ad1) n1 c1 w.heap.size b 71 s4 HOW4.out (HNM.out.below HPL4.out.below) (by omega)).mono ?_
                            rintro e sk ⟨rfl, hqk⟩
                            have HPK := Lib.hid (HPL4.out.next (hqk.below _))
                            have HHK := Lib.hid (HH4.out.below (hqk.below _))
                            have HLK := Lib.hid (HL4.out.below (hqk.below _))
                            have HXK := Lib.hid (HX4.out.below (hqk.below _) HX4.out.lt)
                            clear hqk

                            go_wp2_with fail
                            refine (down_is HPK.out.pad HDN3.out).mono ?_
                            rintro e sd ⟨rfl, rfl⟩
                            go_wp2_with fail
                            go_roundw
                            case rel => exact ⟨k + 1, by go_num, by omega, by omega, j, F, rs, v, p3, some b, rfl, rfl, rfl, HPK.out, HFN3.out, HHK.out, HLK.out⟩
                            case measure => simp [intOf]; omega
      · have HB := Lib.hid HPL.out.below
        obtain rfl : k = 40 := by omega
        go_wp2_with fail
        go_ret
        exact ⟨rfl, HB.out⟩
    · have HB := Lib.hid HPL.out.below
      go_wp2_with fail
      go_ret
      exact ⟨rfl, HB.out⟩

theorem journalPlays_walk (a0 : Int) (A : Option Addr) (len cap : Nat) (l : List OpV) (w : World) (w0 : (Lit.int .i64 a0).wf = true) (w1 : OpRow w A len cap l) :
    Calls Try.prog 13 #[.int .i64 a0, .slice A len cap] w fun e w' => e = .returned (.bool true) ∧ Below w.heap.size w w' := by
  obtain ⟨u0, q, hu0, g0, _, hq, q1⟩ := u64_rest a0 40 (by omega)
  exact plays_core a0 u0 q A len cap l w w1 hu0 g0 hq q1
end Go.Proofs.Ytdjkkpefljapcaa
