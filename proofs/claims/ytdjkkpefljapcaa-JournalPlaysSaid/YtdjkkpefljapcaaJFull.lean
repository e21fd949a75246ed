/- JournalFull: as many leaves as there are, and not one more. -/
import Derived.Test.YtdjkkpefljapcaaSt
namespace Go.Proofs.Ytdjkkpefljapcaa
open Go.RowKit
set_option linter.unusedVariables false
set_option linter.unusedSimpArgs false

theorem wetN_rep (k : Nat) : wetN (List.replicate k Lf.zero) = 0 := by
  induction k with
  | zero => rfl
  | succ k ih => rw [List.replicate_succ, wetN, if_neg (by decide), ih]
theorem wetN_dry (ps : List (List Int)) : wetN (ps.map (Lf.mk 2)) = 0 := by
  induction ps with
  | nil => rfl
  | cons x ps ih => rw [List.map_cons, wetN, if_neg (by show ¬ (2 : Int) = 1; decide), ih]
theorem padOf_wet (N : Nat) (F s : Int) (rs : List (List Int)) : wetN (padOf N F s rs).l = 0 := by
  unfold padOf
  simp only
  rw [wetN_append, wetN_dry, wetN_rep]
def zs (n : Nat) : List Int := List.replicate n 0
theorem zs_len (n : Nat) : (zs n).length = n := by simp [zs]
theorem zs_bytes (n : Nat) : isBytes (zs n) := isBytes_rep n 0 (by omega) (by omega)
theorem need_zs (n : Nat) : need (zs n) = (n + 40) / 41 := by unfold need; rw [zs_len]
theorem one_bytes : isBytes [1] := by
  intro b hb
  rw [List.mem_singleton] at hb
  omega
/-- make([]byte, n), as Add takes it. -/
theorem make_add {w0 w : World} {g h j N : Nat} {F s : Int} {rs : List (List Int)} {v : Value} (a : St w0 w g h j N F s rs v) (n : Nat) (h : n ≤ 100000) :
    ∃ w', (Instr.makeSlice 44 (.int .i64 n) (.int .i64 n)).run Try.prog w = .ok (.slice (some ⟨w.heap.size, 0, none⟩) n n) w' ∧ Below w.heap.size w w' ∧ Nums .u8 w' (w.heap.size + 1) (some ⟨w.heap.size, 0, none⟩) n (zs n) ∧ Blk w' w.heap.size 5 (bArr (zs n)) := by
  refine ⟨_, make_bytes n h w, (Below.refl _ _).alloc (Nat.le_refl _) _, ?_, Blk.new w 5 _⟩
  have := new_nums w (zs n)
  rw [zs_len] at this
  exact this

set_option maxRecDepth 100000 in
set_option maxHeartbeats 4000000 in
theorem full_core (a0 a1 u0 u1 : Int) (k q d : Nat) (w : World) (hu0 : IntKind.u64.wrap a0 = u0) (hu1 : IntKind.u64.wrap a1 = u1) (g0 : 0 ≤ u0) (g1 : 0 ≤ u1) (hk : u0 % 6 = k) (hq : u1 % 300 = q) (k1 : (k : Int) < 6) (q1 : (q : Int) < 300) (hd : (1 + (q : Int) + 40) / 41 = d) :
    Calls Try.prog 12 #[.int .i64 a0, .int .i64 a1] w fun e w' => e = .returned (.bool true) ∧ Below w.heap.size w w' := by
  have hN : (min (max (1 + (k : Int)) 0) 20000).toNat = k + 1 := by omega
  have HN := Lib.hid hN
  have hnd : need (zs (q + 1)) = d := by rw [need_zs]; omega
  have HND := Lib.hid hnd
  clear hN hnd
  go_enter Try.func12, Try.ntmps12
  go_wp2_with fail
  refine (new_any (1 + (k : Int)) (by omega) (by omega) _).mono ?_
  rintro e w1 ⟨g, h, rfl, hp, h1, h2, hb⟩
  have HO := Lib.hid (St.new (w0 := w) hp h1 h2 hb)
  clear hp h1 h2 hb hu0 hu1 hk hq
  go_wp2_with fail
  refine HO.out.mono ?_
  rintro e w2 ⟨j, v, rfl, hs⟩
  rw [HN.out] at hs
  have HS := Lib.hid hs
  clear hs HO
  go_wp2_with fail
  refine (awake24 _).mono ?_
  rintro e w3 ⟨rfl, hb3⟩
  have HS3 := Lib.hid (HS.out.next hb3)
  clear hb3 HS
  obtain ⟨w4, hms, hb4, hnu, hbk⟩ := make_add HS3.out (q + 1) (by omega)
  rw [show ((q + 1 : Nat) : Int) = 1 + (q : Int) from by omega] at hms
  have hgl := HS3.out.pad.lt
  have HS4 := Lib.hid (HS3.out.next hb4)
  have HNU := Lib.hid hnu
  have HBK := Lib.hid hbk
  have hne : w3.heap.size ≠ g ∧ w3.heap.size ≠ h := by omega
  have HNE := Lib.hid hne
  clear hb4 hnu hbk hgl hne
  by_cases hle : d ≤ k + 1
  · have HADD := Lib.hid (HS4.out.add0 ⟨w3.heap.size, 0, none⟩ (q + 1) (q + 1) _ _ HNU.out (.inl ⟨_, _, HBK.out⟩) HNE.out (Nat.le_refl _) (by unfold maxLen; omega) (zs_bytes _) (by omega) (by omega) (by decide) (by rw [HND.out]; simpa [usedBy] using hle))
    go_wp2_with fail
    simp only [hd]
    refine HADD.out.mono ?_
    rintro e w5 ⟨rfl, v5, hs5, _, _⟩
    have HS5 := Lib.hid hs5
    have hus := used_any hs5.jou
    rw [show (⟨0, [] ++ [zs (q + 1)], usedBy ([] ++ [zs (q + 1)])⟩ : Jn).used = d from by show usedBy [zs (q + 1)] = d; rw [usedBy, usedBy, HND.out]; rfl] at hus
    have HUS := Lib.hid hus
    have hgl5 := hs5.pad.lt
    have hb6 : Below w5.heap.size w5 (w5.alloc (.cells #[.int .u8 1] 5)) := (Below.refl _ _).alloc (Nat.le_refl _) _
    have HS6 := Lib.hid (hs5.next hb6)
    have HNU6 := Lib.hid (show Nums .u8 (w5.alloc (.cells #[.int .u8 1] 5)) (w5.heap.size + 1) (some ⟨w5.heap.size, 0, none⟩) 1 [1] from new_nums w5 [1])
    have HBK6 := Lib.hid (show Blk (w5.alloc (.cells #[.int .u8 1] 5)) w5.heap.size 5 (bArr [1]) from Blk.new w5 5 _)
    have hne6 : w5.heap.size ≠ g ∧ w5.heap.size ≠ h := by omega
    have HNE6 := Lib.hid hne6
    clear hs5 hus hgl5 hb6 hne6 HADD
    by_cases hlt : d < k + 1
    · have HADD := Lib.hid (HS6.out.add0 ⟨w5.heap.size, 0, none⟩ 1 1 _ _ HNU6.out (.inl ⟨_, _, HBK6.out⟩) HNE6.out (Nat.le_refl _) (by unfold maxLen; omega) one_bytes (by omega) (by omega) (by decide) (by
        show usedBy [zs (q + 1)] + need [1] ≤ k + 1
        rw [usedBy, usedBy, HND.out, show need [1] = 1 from rfl]
        omega))
      go_wp2_with fail
      refine HUS.out.mono ?_
      rintro e w7 ⟨rfl, rfl⟩
      go_wp2_with fail
      refine HADD.out.mono ?_
      rintro e w7 ⟨rfl, v7, hs7, _, _⟩
      have HL := Lib.hid hs7.below
      clear hs7
      go_wp2_with fail
      go_ret
      refine ⟨?_, HL.out⟩
      show Ending.returned (Value.bool (decide ((d : Int) < 1 + (k : Int)))) = _
      rw [decide_eq_true (by omega)]
    · have hdk : d = k + 1 := by omega
      have HADD := Lib.hid (HS6.out.full (some ⟨w5.heap.size, 0, none⟩) 1 1 (by omega) (by omega) (by
        show k + 1 < usedBy [zs (q + 1)] + 1
        rw [usedBy, usedBy, HND.out]
        omega))
      have hnl : ¬ (d : Int) < 1 + (k : Int) := by omega
      go_wp2_with fail
      refine HUS.out.mono ?_
      rintro e w7 ⟨rfl, rfl⟩
      go_wp2_with fail
      refine HADD.out.mono ?_
      rintro e w7 ⟨rfl, hs7, _⟩
      have HL := Lib.hid hs7.below
      clear hs7
      go_wp2_with fail
      go_ret
      refine ⟨?_, HL.out⟩
      show Ending.returned (Value.bool !(decide ((k : Int) + 1 < 1 + (k : Int)))) = _
      rw [decide_eq_false (by omega)]
      rfl
  · have HADD := Lib.hid (HS4.out.full (some ⟨w3.heap.size, 0, none⟩) (q + 1) (q + 1) (by omega) (by omega) (by
      show k + 1 < 0 + (q + 1 + 40) / 41
      have := HND.out
      rw [need_zs] at this
      omega))
    go_wp2_with fail
    simp only [hd]
    refine HADD.out.mono ?_
    rintro e w5 ⟨rfl, hs5, _⟩
    have HUS := Lib.hid (used_any hs5.jou)
    have HWT := Lib.hid (wet_any hs5.pad)
    have HS5 := Lib.hid hs5
    clear hs5 HADD
    go_wp2_with fail
    refine HUS.out.mono ?_
    rintro e w6 ⟨rfl, rfl⟩
    rw [show ((usedBy [] : Nat) : Int) = 0 from rfl]
    go_wp2_with fail
    refine HWT.out.mono ?_
    rintro e w6 ⟨rfl, hb6⟩
    rw [padOf_wet, show ((0 : Nat) : Int) = 0 from rfl]
    have HS6 := Lib.hid (HS5.out.next hb6)
    clear hb6 HS5 HWT HUS
    obtain ⟨w7, hms7, hb7, hnu7, hbk7⟩ := make_add HS6.out (41 * (k + 1)) (by omega)
    rw [show ((41 * (k + 1) : Nat) : Int) = 41 * (1 + (k : Int)) from by omega] at hms7
    have hgl6 := HS6.out.pad.lt
    have hne7 : w6.heap.size ≠ g ∧ w6.heap.size ≠ h := by omega
    have hfit : need (zs (41 * (k + 1))) = k + 1 := by rw [need_zs]; omega
    have HADD := Lib.hid ((HS6.out.next hb7).add0 ⟨w6.heap.size, 0, none⟩ (41 * (k + 1)) (41 * (k + 1)) _ _ hnu7 (.inl ⟨_, _, hbk7⟩) hne7 (Nat.le_refl _) (by unfold maxLen; omega) (zs_bytes _) (by omega) (by omega) (by decide) (by
        show 0 + need (zs (41 * (k + 1))) ≤ k + 1
        rw [hfit]
        omega))
    have HFIT := Lib.hid hfit
    clear hb7 hnu7 hbk7 hgl6 hne7 hfit
    go_wp2_with fail
    refine HADD.out.mono ?_
    rintro e w8 ⟨rfl, v8, hs8, _, _⟩
    have hb9 : Below w8.heap.size w8 (w8.alloc (.cells #[.int .u8 1] 5)) := (Below.refl _ _).alloc (Nat.le_refl _) _
    have HADD2 := Lib.hid ((hs8.next hb9).full (some ⟨w8.heap.size, 0, none⟩) 1 1 (by omega) (by omega) (by
        show k + 1 < usedBy [zs (41 * (k + 1))] + 1
        rw [usedBy, usedBy, HFIT.out]
        omega))
    clear hs8 hb9 HADD
    go_wp2_with fail
    refine HADD2.out.mono ?_
    rintro e w9 ⟨rfl, hs9, _⟩
    have HL := Lib.hid hs9.below
    clear hs9
    go_wp2_with fail
    go_ret
    exact ⟨rfl, HL.out⟩

theorem journalFull_walk (a0 a1 : Int) (w : World) (w0 : (Lit.int .i64 a0).wf = true) (w1 : (Lit.int .i64 a1).wf = true) :
    Calls Try.prog 12 #[.int .i64 a0, .int .i64 a1] w fun e w' => e = .returned (.bool true) ∧ Below w.heap.size w w' := by
  obtain ⟨u0, k, hu0, g0, _, hk, k1⟩ := u64_rest a0 6 (by omega)
  obtain ⟨u1, q, hu1, g1, _, hq, q1⟩ := u64_rest a1 300 (by omega)
  exact full_core a0 a1 u0 u1 k q ((q + 41) / 41) w hu0 hu1 g0 g1 hk hq k1 q1 (by omega)
end Go.Proofs.Ytdjkkpefljapcaa
