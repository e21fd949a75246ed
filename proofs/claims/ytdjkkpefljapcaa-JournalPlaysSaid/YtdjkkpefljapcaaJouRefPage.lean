/- The contract of lombardref24.Page where a leaf is written. -/
import Derived.Test.YtdjkkpefljapcaaJouQ
namespace Go.Proofs.Ytdjkkpefljapcaa
open Go.RowKit
set_option linter.unusedVariables false
set_option linter.unusedSimpArgs false

/-- j bytes are copied. -/
def copyV (first last : Bool) (b : List Int) (j : Nat) : List Int := [0, 0, 0, 0, flagV first last, (b.length : Int)] ++ (b.take j ++ List.replicate (42 - j) 0)
theorem copyV_len {first last : Bool} {b : List Int} {j : Nat} (h : b.length ≤ 41) (hj : j ≤ b.length) : (copyV first last b j).length = 48 := by simp [copyV]; omega
theorem copyV_zero (first last : Bool) (b : List Int) : copyV first last b 0 = startV first last b.length := by simp [copyV, startV]
theorem copyV_set {first last : Bool} {b : List Int} {j : Nat} (h : b.length ≤ 41) (hj : j < b.length) : (copyV first last b j).set (6 + j) (b.getD j 0) = copyV first last b (j + 1) := by
  unfold copyV
  rw [List.set_append_right _ _ (by simp), show 6 + j - ([0, 0, 0, 0, flagV first last, (b.length : Int)] : List Int).length = j from by simp]
  congr 1
  rw [List.set_append_right _ _ (by simp; omega), List.length_take, show j - min j b.length = 0 from by omega, show 42 - j = (42 - (j + 1)) + 1 from by omega, List.replicate_succ, List.set_cons_zero, List.take_succ_eq_append_getElem hj, List.append_assoc]
  simp only [List.getD, List.getElem?_eq_getElem hj, Option.getD_some, List.singleton_append]
theorem copyV_all {first last : Bool} {b : List Int} (h : b.length ≤ 41) : copyV first last b b.length = [0, 0, 0, 0] ++ bodyV first last b ++ [0] := by
  unfold copyV bodyV
  rw [List.take_of_length_le (Nat.le_refl _), show 42 - b.length = (41 - b.length) + 1 from by omega, List.replicate_succ']
  simp
/-- j bytes of the sum are laid. -/
def layV (s : Int) (first last : Bool) (b : List Int) (j : Nat) : List Int := ((hi4 s).take j ++ List.replicate (4 - j) 0) ++ (bodyV first last b ++ [0])
theorem layV_len {s : Int} {first last : Bool} {b : List Int} {j : Nat} (h : b.length ≤ 41) (hj : j ≤ 4) : (layV s first last b j).length = 48 := by
  unfold layV
  rw [List.length_append, List.length_append, List.length_append, bodyV_len h]
  simp [hi4]
  omega
theorem layV_all (n : Int) (first last : Bool) (b : List Int) (h : b.length ≤ 41) : (layV (sumV n (bodyV first last b)) first last b 4).set 47 90 = pageV n first last b := by
  unfold layV pageV
  rw [show ((hi4 (sumV n (bodyV first last b))).take 4 ++ List.replicate (4 - 4) 0) = hi4 (sumV n (bodyV first last b)) from rfl, ← List.append_assoc, List.set_append_right _ _ (by rw [List.length_append, bodyV_len h]; simp [hi4])]
  rw [show 47 - (hi4 (sumV n (bodyV first last b)) ++ bodyV first last b).length = 0 from by rw [List.length_append, bodyV_len h]; simp [hi4]]
  rfl
theorem mid_src {w : World} {g : Nat} {t : TypeId} {x : List Int} (h : Blk w g t (bArr x)) (hx : x.length = 48) : Nums .u8 w (g + 1) (some ⟨g, 4, none⟩) 43 (midOf x) := by
  refine ⟨by rw [List.length_map, midOf_len hx], fun _ => ⟨_, rfl, by simp, fun j u hu => ?_⟩⟩
  have hj : j < 43 := by have := (List.getElem?_eq_some_iff.1 hu).1; rw [List.length_map, midOf_len hx] at this; exact this
  rw [Addr.add_lit, h.cell]
  unfold bArr
  rw [List.getElem?_toArray, ← hu]
  simp only [List.getElem?_map, midOf]
  rw [List.getElem?_take_of_lt hj, List.getElem?_drop]

set_option maxRecDepth 100000 in
set_option maxHeartbeats 4000000 in
theorem refPage_ok (n : Int) (first last : Bool) (ad : Addr) (m cap B : Nat) (b : List Int) (w : World) (h0 : 0 ≤ n) (h1 : n ≤ 20000) (hm : Nums .u8 w B (some ad) m b) (hB : B ≤ w.heap.size) (hb : isBytes b) (m1 : 1 ≤ m) (m2 : m ≤ 41) (hl : last = true ∨ m = 41) :
    Calls Try.prog 31 #[.int .i64 n, .bool first, .bool last, .slice (some ad) m cap] w fun e w' => e = .returned (.tuple #[.agg (bArr (pageV n first last b)), .int .i64 0]) ∧ Below w.heap.size w w' := by
  have hlen := hm.len
  have d1 : decide ((m : Int) < 1) = false := decide_eq_false (by omega)
  have d2 : decide (41 < (m : Int)) = false := decide_eq_false (by omega)
  have d4 : decide (n < 0) = false := decide_eq_false (by omega)
  have d5 : decide (20000 < n) = false := decide_eq_false (by omega)
  have hM : Nums .u8 ((w.alloc (.cells zArr 26)).alloc (.cells zArr 26)) B (some ad) m b := (hm.below ((Below.refl B w).alloc hB _)).below ((Below.refl B (w.alloc (.cells zArr 26))).alloc (by simp; omega) (.cells zArr 26))
  have hR : Blk ((w.alloc (.cells zArr 26)).alloc (.cells zArr 26)) w.heap.size 26 zArr := (Blk.new w 26 _).alloc _
  have hX : Blk ((w.alloc (.cells zArr 26)).alloc (.cells zArr 26)) (w.heap.size + 1) 26 zArr := Blk.new1 w _ 26 _
  have hL : Below w.heap.size w ((w.alloc (.cells zArr 26)).alloc (.cells zArr 26)) := ((Below.refl _ _).alloc (Nat.le_refl _) _).alloc (by simp) _
  have HM := Lib.hid hM
  have HR := Lib.hid hR
  have HL := Lib.hid hL
  have HX := Lib.hid hX
  have HLN := Lib.hid hlen
  have HBY := Lib.hid hb
  clear hm hM hR hL hX hlen hb
  go_enter Try.func31, Try.ntmps31
  go_upto_region 2 with (with_reducible refine step_alloc 26 zArr Try.zero26 rfl rfl ?_)
  generalize hW : (w.alloc (.cells zArr 26)).alloc (.cells zArr 26) = v0 at *
  clear hW
  have c4 : v0.cell? ⟨w.heap.size + 1, 4, none⟩ = some (.int .u8 0) := by rw [HX.out.cell]; exact zArr_at 4 (by omega)
  have c5 : v0.cell? ⟨w.heap.size + 1, 5, none⟩ = some (.int .u8 0) := by rw [HX.out.cell]; exact zArr_at 5 (by omega)
  have f4 := HX.out.frozen 4
  have f5 := HX.out.frozen 5
  have hb41 : b.length ≤ 41 := by rw [HLN.out]; exact m2
  have HB41 := Lib.hid hb41
  clear hb41
  have dl : last = false → m = 41 := fun h => by rcases hl with h' | h'; rw [h'] at h; cases h; exact h'
  have HDL := Lib.hid dl
  clear dl hl
  have d6 : last = false → decide ((m : Int) < 41) = false := fun h => decide_eq_false (by have := HDL.out h; omega)
  have key : ∀ v1 : World, Blk v1 (w.heap.size + 1) 26 (bArr (startV first last b.length)) → Below (w.heap.size + 1) v0 v1 → True := fun _ _ _ => trivial
  clear key
  cases last with
  | true =>
    clear d6
    cases first with
    | true =>
      go_upto_region 9 with (fail)
      have hX1 : Blk (((v0.setCell ⟨w.heap.size + 1, 4, none⟩ (.int .u8 1)).setCell ⟨w.heap.size + 1, 4, none⟩ (.int .u8 3)).setCell ⟨w.heap.size + 1, 5, none⟩ (.int .u8 m)) (w.heap.size + 1) 26 (bArr (startV true true b.length)) := by
        have := (((HX.out.set_ 4 (.int .u8 1)).set_ 4 (.int .u8 3)).set_ 5 (.int .u8 m))
        rw [zb_arr, bArr_set, bArr_set, bArr_set] at this
        rw [HLN.out]
        exact this
      have hL1 : Below (w.heap.size + 1) v0 (((v0.setCell ⟨w.heap.size + 1, 4, none⟩ (.int .u8 1)).setCell ⟨w.heap.size + 1, 4, none⟩ (.int .u8 3)).setCell ⟨w.heap.size + 1, 5, none⟩ (.int .u8 m)) := (((Below.refl (w.heap.size + 1) v0).setCell (Nat.le_refl _) _).setCell (Nat.le_refl _) _).setCell (Nat.le_refl _) _
      have HX1 := Lib.hid hX1
      have HL1 := Lib.hid hL1
      clear hX1 hL1 c4 c5 f4 f5
      generalize hW : (((v0.setCell ⟨w.heap.size + 1, 4, none⟩ (.int .u8 1)).setCell ⟨w.heap.size + 1, 4, none⟩ (.int .u8 3)).setCell ⟨w.heap.size + 1, 5, none⟩ (.int .u8 m)) = v1 at *
      clear hW
      have HM1 := Lib.hid (HM.out.below (HL1.out.mono (by omega)))
      have HR1 := Lib.hid (HR.out.below HL1.out (by omega))
      have HB1 := Lib.hid (HL.out.trans (HL1.out.mono (by omega)))
      have hz1 : w.heap.size + 1 < v1.heap.size := HX1.out.lt
      clear HM HR HL HL1 HX
      go_wp2_with fail
      go_loopw [11] (fun i wr => ∃ j : Nat, j ≤ m ∧ i = .int .i64 j ∧ Blk wr (w.heap.size + 1) 26 (bArr (copyV true true b j)) ∧ Below (w.heap.size + 1) v1 wr) (fun i _ => m - (intOf i).toNat)
      case atStart => exact ⟨0, by omega, rfl, by rw [copyV_zero]; exact HX1.out, Below.refl _ _⟩
      case round =>
        obtain ⟨j, hj, rfl, hx, hbl⟩ := hrel
        have HXX := Lib.hid hx
        have HBL := Lib.hid hbl
        by_cases hlt : j < m
        · obtain ⟨ad', e', _, cs⟩ := (HM1.out.below (hbl.mono (by omega))).at_ hlt
          injection e' with e'
          subst e'
          have c6 : wr.cell? ⟨w.heap.size + 1, 6 + j, none⟩ = some (.int .u8 ((copyV true true b j).getD (6 + j) 0)) := by rw [hx.cell, bArr_get _ _ (by rw [copyV_len HB41.out (by rw [HLN.out]; omega)]; omega)]
          have f6 := hx.frozen (6 + j)
          have HST := Lib.hid (copyV_set (first := true) (last := true) HB41.out (show j < b.length by rw [HLN.out]; exact hlt))
          clear hx hbl
          generalize b.getD j 0 = bj at *
          go_wp2_with fail
          go_roundw
          case rel =>
            refine ⟨j + 1, by omega, by go_num, ?_, HBL.out.setCell (Nat.le_refl _) _⟩
            have := HXX.out.set_ (6 + j) (.int .u8 bj)
            rwa [bArr_set, HST.out] at this
          case measure => (try simp [intOf]) <;> omega
        · obtain rfl : j = m := by omega
          clear hlt hj HXX HBL
          obtain ⟨v2, rfl⟩ : ∃ v2 : World, v2 = wr := ⟨_, rfl⟩
          have hx2 : Blk v2 (w.heap.size + 1) 26 (bArr (layV (sumV n (bodyV true true b)) true true b 0)) := by
            have e := copyV_all (first := true) (last := true) HB41.out
            rw [HLN.out] at e
            rw [e, List.append_assoc] at hx
            exact hx
          have hsrc := mid_src hx2 (layV_len HB41.out (by omega))
          rw [show midOf (layV (sumV n (bodyV true true b)) true true b 0) = bodyV true true b from by unfold midOf layV; rw [List.drop_left' (by rfl), List.take_left' (bodyV_len HB41.out)]] at hsrc
          have HSRC := Lib.hid hsrc
          have HX2 := Lib.hid hx2
          have HR2 := Lib.hid (HR1.out.below hbl (by omega))
          have HB2 := Lib.hid (HB1.out.trans (hbl.mono (by omega)))
          have hz2 : w.heap.size + 1 < v2.heap.size := hx2.lt
          clear hx hx2 hsrc hbl HX1 HR1 HB1 HM1
          go_wp2_with fail
          refine (refsum_any n _ _ _ _ h0 h1 _ HSRC.out (bodyV_bytes HB41.out HBY.out) (by omega)).mono ?_
          rintro e v3 ⟨rfl, hb3⟩
          have hsb := sumV_range n (bodyV true true b)
          have HX3 := Lib.hid (HX2.out.below hb3 HX2.out.lt)
          have HR3 := Lib.hid (HR2.out.below hb3 HR2.out.lt)
          have HB3 := Lib.hid (HB2.out.trans (hb3.mono (by omega)))
          have HPG := Lib.hid (layV_all n true true b HB41.out)
          clear hb3 HSRC HX2 HR2 HB2
          generalize hs : sumV n (bodyV true true b) = s at *
          clear hs
          obtain ⟨hs0, hs1⟩ := hsb
          go_wp2_with fail
          go_loopw [13] (fun i wr => ∃ j : Nat, j ≤ 4 ∧ i = .int .i64 j ∧ Blk wr (w.heap.size + 1) 26 (bArr (layV s true true b j)) ∧ Below (w.heap.size + 1) v3 wr) (fun i _ => 4 - (intOf i).toNat)
          case atStart => exact ⟨0, by omega, rfl, HX3.out, Below.refl _ _⟩
          case round =>
            obtain ⟨j, hj, rfl, hx, hbl⟩ := hrel
            have HXX := Lib.hid hx
            have HBL := Lib.hid hbl
            have hcell : ∀ i, i < 48 → ∃ u, wr.cell? ⟨w.heap.size + 1, i, none⟩ = some u := fun i hi => ⟨_, by rw [hx.cell, bArr_get _ _ (by rw [layV_len HB41.out hj]; exact hi)]⟩
            obtain ⟨u0, cc0⟩ := hcell 0 (by omega)
            obtain ⟨u1, cc1⟩ := hcell 1 (by omega)
            obtain ⟨u2, cc2⟩ := hcell 2 (by omega)
            obtain ⟨u3, cc3⟩ := hcell 3 (by omega)
            obtain ⟨u4, cc4⟩ := hcell 47 (by omega)
            have ff0 := hx.frozen 0
            have ff1 := hx.frozen 1
            have ff2 := hx.frozen 2
            have ff3 := hx.frozen 3
            have ff4 := hx.frozen 47
            clear hx hbl hcell
            have hjj : j = 0 ∨ j = 1 ∨ j = 2 ∨ j = 3 ∨ j = 4 := by omega
            rcases hjj with rfl | rfl | rfl | rfl | rfl
            · go_wp2_with fail
              go_roundw
              case rel =>
                refine ⟨1, by omega, by first | rfl | go_num, ?_, HBL.out.setCell (Nat.le_refl _) _⟩
                have := HXX.out.set_ 0 (.int .u8 (s / 16777216))
                rw [bArr_set] at this
                have e0 : s / 16777216 = s / 16777216 % 256 := by omega
                rw [e0] at this ⊢
                exact this
              case measure => (try simp [intOf]) <;> omega
            · go_wp2_with fail
              go_roundw
              case rel =>
                refine ⟨2, by omega, by first | rfl | go_num, ?_, HBL.out.setCell (Nat.le_refl _) _⟩
                have := HXX.out.set_ 1 (.int .u8 (s / 65536 % 256))
                rw [bArr_set] at this
                exact this
              case measure => (try simp [intOf]) <;> omega
            · go_wp2_with fail
              go_roundw
              case rel =>
                refine ⟨3, by omega, by first | rfl | go_num, ?_, HBL.out.setCell (Nat.le_refl _) _⟩
                have := HXX.out.set_ 2 (.int .u8 (s / 256 % 256))
                rw [bArr_set] at this
                exact this
              case measure => (try simp [intOf]) <;> omega
            · go_wp2_with fail
              go_roundw
              case rel =>
                refine ⟨4, by omega, by first | rfl | go_num, ?_, HBL.out.setCell (Nat.le_refl _) _⟩
                have := HXX.out.set_ 3 (.int .u8 (s % 256))
                rw [bArr_set] at this
                exact this
              case measure => (try simp [intOf]) <;> omega
            · obtain ⟨v4, rfl⟩ : ∃ v4 : World, v4 = wr := ⟨_, rfl⟩
              have hx5 : Blk (v4.setCell ⟨w.heap.size + 1, 47, none⟩ (.int .u8 90)) (w.heap.size + 1) 26 (bArr (pageV n true true b)) := by
                have := HXX.out.set_ 47 (.int .u8 90)
                rwa [bArr_set, HPG.out] at this
              have HX5 := Lib.hid hx5
              have HR5 := Lib.hid ((HR3.out.below HBL.out (by omega)).far (p := ⟨w.heap.size + 1, 47, none⟩) (by simp) (.int .u8 90))
              have HB5 := Lib.hid ((HB3.out.trans (HBL.out.mono (by omega))).setCell (p := ⟨w.heap.size + 1, 47, none⟩) (by simp) (.int .u8 90))
              have HPL := Lib.hid (pageV_len (n := n) (first := true) (last := true) HB41.out)
              have HR8 := Lib.hid (HR5.out.overwrite (D := bArr (pageV n true true b)) (by rw [bArr_size HPL.out, zArr_size]))
              have HB8 := Lib.hid (HB5.out.trans ((Off.refl w.heap.size w.heap.size _).setCells (.inl rfl) 0 (bArr (pageV n true true b)).toList |>.below (Nat.le_refl _) (Nat.le_refl _) HB5.out.size))
              clear hx5
              generalize hW : (v4.setCell ⟨w.heap.size + 1, 47, none⟩ (.int .u8 90)).setCells w.heap.size 0 (bArr (pageV n true true b)).toList = v8 at *
              have HW8 := Lib.hid hW
              clear hW
              go_wp2_with (first | (refine step_load 26 _ (w.heap.size + 1) 0 (bArr (pageV n true true b)) rfl rfl rfl HX5.out.all _ Try.underlying26 rfl 48 Try.size26 (bArr_size HPL.out) ?_) | (refine step_storeW 26 _ _ w.heap.size 0 (bArr (pageV n true true b)) rfl rfl rfl rfl 48 (HR5.out.allThere zArr_size) Try.size26 (bArr_size HPL.out) (bArr_one _) HW8.out ?_))
              exact bodyPost_ret (v := .tuple #[.agg (bArr (pageV n true true b)), .int .i64 0]) (ret_agg2 rfl _ _ _ _ _ _ _ rfl rfl HR8.out Try.underlying26 rfl 48 Try.size26 (bArr_size HPL.out)) rfl ⟨rfl, HB8.out⟩
    | false =>
      go_upto_region 9 with (fail)
      have hX1 : Blk ((v0.setCell ⟨w.heap.size + 1, 4, none⟩ (.int .u8 2)).setCell ⟨w.heap.size + 1, 5, none⟩ (.int .u8 m)) (w.heap.size + 1) 26 (bArr (startV false true b.length)) := by
        have := ((HX.out.set_ 4 (.int .u8 2)).set_ 5 (.int .u8 m))
        rw [zb_arr, bArr_set, bArr_set] at this
        rw [HLN.out]
        exact this
      have hL1 : Below (w.heap.size + 1) v0 ((v0.setCell ⟨w.heap.size + 1, 4, none⟩ (.int .u8 2)).setCell ⟨w.heap.size + 1, 5, none⟩ (.int .u8 m)) := ((Below.refl (w.heap.size + 1) v0).setCell (Nat.le_refl _) _).setCell (Nat.le_refl _) _
      have HX1 := Lib.hid hX1
      have HL1 := Lib.hid hL1
      clear hX1 hL1 c4 c5 f4 f5
      generalize hW : ((v0.setCell ⟨w.heap.size + 1, 4, none⟩ (.int .u8 2)).setCell ⟨w.heap.size + 1, 5, none⟩ (.int .u8 m)) = v1 at *
      clear hW
      have HM1 := Lib.hid (HM.out.below (HL1.out.mono (by omega)))
      have HR1 := Lib.hid (HR.out.below HL1.out (by omega))
      have HB1 := Lib.hid (HL.out.trans (HL1.out.mono (by omega)))
      have hz1 : w.heap.size + 1 < v1.heap.size := HX1.out.lt
      clear HM HR HL HL1 HX
      go_wp2_with fail
      go_loopw [11] (fun i wr => ∃ j : Nat, j ≤ m ∧ i = .int .i64 j ∧ Blk wr (w.heap.size + 1) 26 (bArr (copyV false true b j)) ∧ Below (w.heap.size + 1) v1 wr) (fun i _ => m - (intOf i).toNat)
      case atStart => exact ⟨0, by omega, rfl, by rw [copyV_zero]; exact HX1.out, Below.refl _ _⟩
      case round =>
        obtain ⟨j, hj, rfl, hx, hbl⟩ := hrel
        have HXX := Lib.hid hx
        have HBL := Lib.hid hbl
        by_cases hlt : j < m
        · obtain ⟨ad', e', _, cs⟩ := (HM1.out.below (hbl.mono (by omega))).at_ hlt
          injection e' with e'
          subst e'
          have c6 : wr.cell? ⟨w.heap.size + 1, 6 + j, none⟩ = some (.int .u8 ((copyV false true b j).getD (6 + j) 0)) := by rw [hx.cell, bArr_get _ _ (by rw [copyV_len HB41.out (by rw [HLN.out]; omega)]; omega)]
          have f6 := hx.frozen (6 + j)
          have HST := Lib.hid (copyV_set (first := false) (last := true) HB41.out (show j < b.length by rw [HLN.out]; exact hlt))
          clear hx hbl
          generalize b.getD j 0 = bj at *
          go_wp2_with fail
          go_roundw
          case rel =>
            refine ⟨j + 1, by omega, by go_num, ?_, HBL.out.setCell (Nat.le_refl _) _⟩
            have := HXX.out.set_ (6 + j) (.int .u8 bj)
            rwa [bArr_set, HST.out] at this
          case measure => (try simp [intOf]) <;> omega
        · obtain rfl : j = m := by omega
          clear hlt hj HXX HBL
          obtain ⟨v2, rfl⟩ : ∃ v2 : World, v2 = wr := ⟨_, rfl⟩
          have hx2 : Blk v2 (w.heap.size + 1) 26 (bArr (layV (sumV n (bodyV false true b)) false true b 0)) := by
            have e := copyV_all (first := false) (last := true) HB41.out
            rw [HLN.out] at e
            rw [e, List.append_assoc] at hx
            exact hx
          have hsrc := mid_src hx2 (layV_len HB41.out (by omega))
          rw [show midOf (layV (sumV n (bodyV false true b)) false true b 0) = bodyV false true b from by unfold midOf layV; rw [List.drop_left' (by rfl), List.take_left' (bodyV_len HB41.out)]] at hsrc
          have HSRC := Lib.hid hsrc
          have HX2 := Lib.hid hx2
          have HR2 := Lib.hid (HR1.out.below hbl (by omega))
          have HB2 := Lib.hid (HB1.out.trans (hbl.mono (by omega)))
          have hz2 : w.heap.size + 1 < v2.heap.size := hx2.lt
          clear hx hx2 hsrc hbl HX1 HR1 HB1 HM1
          go_wp2_with fail
          refine (refsum_any n _ _ _ _ h0 h1 _ HSRC.out (bodyV_bytes HB41.out HBY.out) (by omega)).mono ?_
          rintro e v3 ⟨rfl, hb3⟩
          have hsb := sumV_range n (bodyV false true b)
          have HX3 := Lib.hid (HX2.out.below hb3 HX2.out.lt)
          have HR3 := Lib.hid (HR2.out.below hb3 HR2.out.lt)
          have HB3 := Lib.hid (HB2.out.trans (hb3.mono (by omega)))
          have HPG := Lib.hid (layV_all n false true b HB41.out)
          clear hb3 HSRC HX2 HR2 HB2
          generalize hs : sumV n (bodyV false true b) = s at *
          clear hs
          obtain ⟨hs0, hs1⟩ := hsb
          go_wp2_with fail
          go_loopw [13] (fun i wr => ∃ j : Nat, j ≤ 4 ∧ i = .int .i64 j ∧ Blk wr (w.heap.size + 1) 26 (bArr (layV s false true b j)) ∧ Below (w.heap.size + 1) v3 wr) (fun i _ => 4 - (intOf i).toNat)
          case atStart => exact ⟨0, by omega, rfl, HX3.out, Below.refl _ _⟩
          case round =>
            obtain ⟨j, hj, rfl, hx, hbl⟩ := hrel
            have HXX := Lib.hid hx
            have HBL := Lib.hid hbl
            have hcell : ∀ i, i < 48 → ∃ u, wr.cell? ⟨w.heap.size + 1, i, none⟩ = some u := fun i hi => ⟨_, by rw [hx.cell, bArr_get _ _ (by rw [layV_len HB41.out hj]; exact hi)]⟩
            obtain ⟨u0, cc0⟩ := hcell 0 (by omega)
            obtain ⟨u1, cc1⟩ := hcell 1 (by omega)
            obtain ⟨u2, cc2⟩ := hcell 2 (by omega)
            obtain ⟨u3, cc3⟩ := hcell 3 (by omega)
            obtain ⟨u4, cc4⟩ := hcell 47 (by omega)
            have ff0 := hx.frozen 0
            have ff1 := hx.frozen 1
            have ff2 := hx.frozen 2
            have ff3 := hx.frozen 3
            have ff4 := hx.frozen 47
            clear hx hbl hcell
            have hjj : j = 0 ∨ j = 1 ∨ j = 2 ∨ j = 3 ∨ j = 4 := by omega
            rcases hjj with rfl | rfl | rfl | rfl | rfl
            · go_wp2_with fail
              go_roundw
              case rel =>
                refine ⟨1, by omega, by first | rfl | go_num, ?_, HBL.out.setCell (Nat.le_refl _) _⟩
                have := HXX.out.set_ 0 (.int .u8 (s / 16777216))
                rw [bArr_set] at this
                have e0 : s / 16777216 = s / 16777216 % 256 := by omega
                rw [e0] at this ⊢
                exact this
              case measure => (try simp [intOf]) <;> omega
            · go_wp2_with fail
              go_roundw
              case rel =>
                refine ⟨2, by omega, by first | rfl | go_num, ?_, HBL.out.setCell (Nat.le_refl _) _⟩
                have := HXX.out.set_ 1 (.int .u8 (s / 65536 % 256))
                rw [bArr_set] at this
                exact this
              case measure => (try simp [intOf]) <;> omega
            · go_wp2_with fail
              go_roundw
              case rel =>
                refine ⟨3, by omega, by first | rfl | go_num, ?_, HBL.out.setCell (Nat.le_refl _) _⟩
                have := HXX.out.set_ 2 (.int .u8 (s / 256 % 256))
                rw [bArr_set] at this
                exact this
              case measure => (try simp [intOf]) <;> omega
            · go_wp2_with fail
              go_roundw
              case rel =>
                refine ⟨4, by omega, by first | rfl | go_num, ?_, HBL.out.setCell (Nat.le_refl _) _⟩
                have := HXX.out.set_ 3 (.int .u8 (s % 256))
                rw [bArr_set] at this
                exact this
              case measure => (try simp [intOf]) <;> omega
            · obtain ⟨v4, rfl⟩ : ∃ v4 : World, v4 = wr := ⟨_, rfl⟩
              have hx5 : Blk (v4.setCell ⟨w.heap.size + 1, 47, none⟩ (.int .u8 90)) (w.heap.size + 1) 26 (bArr (pageV n false true b)) := by
                have := HXX.out.set_ 47 (.int .u8 90)
                rwa [bArr_set, HPG.out] at this
              have HX5 := Lib.hid hx5
              have HR5 := Lib.hid ((HR3.out.below HBL.out (by omega)).far (p := ⟨w.heap.size + 1, 47, none⟩) (by simp) (.int .u8 90))
              have HB5 := Lib.hid ((HB3.out.trans (HBL.out.mono (by omega))).setCell (p := ⟨w.heap.size + 1, 47, none⟩) (by simp) (.int .u8 90))
              have HPL := Lib.hid (pageV_len (n := n) (first := false) (last := true) HB41.out)
              have HR8 := Lib.hid (HR5.out.overwrite (D := bArr (pageV n false true b)) (by rw [bArr_size HPL.out, zArr_size]))
              have HB8 := Lib.hid (HB5.out.trans ((Off.refl w.heap.size w.heap.size _).setCells (.inl rfl) 0 (bArr (pageV n false true b)).toList |>.below (Nat.le_refl _) (Nat.le_refl _) HB5.out.size))
              clear hx5
              generalize hW : (v4.setCell ⟨w.heap.size + 1, 47, none⟩ (.int .u8 90)).setCells w.heap.size 0 (bArr (pageV n false true b)).toList = v8 at *
              have HW8 := Lib.hid hW
              clear hW
              go_wp2_with (first | (refine step_load 26 _ (w.heap.size + 1) 0 (bArr (pageV n false true b)) rfl rfl rfl HX5.out.all _ Try.underlying26 rfl 48 Try.size26 (bArr_size HPL.out) ?_) | (refine step_storeW 26 _ _ w.heap.size 0 (bArr (pageV n false true b)) rfl rfl rfl rfl 48 (HR5.out.allThere zArr_size) Try.size26 (bArr_size HPL.out) (bArr_one _) HW8.out ?_))
              exact bodyPost_ret (v := .tuple #[.agg (bArr (pageV n false true b)), .int .i64 0]) (ret_agg2 rfl _ _ _ _ _ _ _ rfl rfl HR8.out Try.underlying26 rfl 48 Try.size26 (bArr_size HPL.out)) rfl ⟨rfl, HB8.out⟩
  | false =>
    have d3 := d6 rfl
    clear d6
    cases first with
    | true =>
      go_upto_region 9 with (fail)
      have hX1 : Blk ((v0.setCell ⟨w.heap.size + 1, 4, none⟩ (.int .u8 1)).setCell ⟨w.heap.size + 1, 5, none⟩ (.int .u8 m)) (w.heap.size + 1) 26 (bArr (startV true false b.length)) := by
        have := ((HX.out.set_ 4 (.int .u8 1)).set_ 5 (.int .u8 m))
        rw [zb_arr, bArr_set, bArr_set] at this
        rw [HLN.out]
        exact this
      have hL1 : Below (w.heap.size + 1) v0 ((v0.setCell ⟨w.heap.size + 1, 4, none⟩ (.int .u8 1)).setCell ⟨w.heap.size + 1, 5, none⟩ (.int .u8 m)) := ((Below.refl (w.heap.size + 1) v0).setCell (Nat.le_refl _) _).setCell (Nat.le_refl _) _
      have HX1 := Lib.hid hX1
      have HL1 := Lib.hid hL1
      clear hX1 hL1 c4 c5 f4 f5
      generalize hW : ((v0.setCell ⟨w.heap.size + 1, 4, none⟩ (.int .u8 1)).setCell ⟨w.heap.size + 1, 5, none⟩ (.int .u8 m)) = v1 at *
      clear hW
      have HM1 := Lib.hid (HM.out.below (HL1.out.mono (by omega)))
      have HR1 := Lib.hid (HR.out.below HL1.out (by omega))
      have HB1 := Lib.hid (HL.out.trans (HL1.out.mono (by omega)))
      have hz1 : w.heap.size + 1 < v1.heap.size := HX1.out.lt
      clear HM HR HL HL1 HX
      go_wp2_with fail
      go_loopw [11] (fun i wr => ∃ j : Nat, j ≤ m ∧ i = .int .i64 j ∧ Blk wr (w.heap.size + 1) 26 (bArr (copyV true false b j)) ∧ Below (w.heap.size + 1) v1 wr) (fun i _ => m - (intOf i).toNat)
      case atStart => exact ⟨0, by omega, rfl, by rw [copyV_zero]; exact HX1.out, Below.refl _ _⟩
      case round =>
        obtain ⟨j, hj, rfl, hx, hbl⟩ := hrel
        have HXX := Lib.hid hx
        have HBL := Lib.hid hbl
        by_cases hlt : j < m
        · obtain ⟨ad', e', _, cs⟩ := (HM1.out.below (hbl.mono (by omega))).at_ hlt
          injection e' with e'
          subst e'
          have c6 : wr.cell? ⟨w.heap.size + 1, 6 + j, none⟩ = some (.int .u8 ((copyV true false b j).getD (6 + j) 0)) := by rw [hx.cell, bArr_get _ _ (by rw [copyV_len HB41.out (by rw [HLN.out]; omega)]; omega)]
          have f6 := hx.frozen (6 + j)
          have HST := Lib.hid (copyV_set (first := true) (last := false) HB41.out (show j < b.length by rw [HLN.out]; exact hlt))
          clear hx hbl
          generalize b.getD j 0 = bj at *
          go_wp2_with fail
          go_roundw
          case rel =>
            refine ⟨j + 1, by omega, by go_num, ?_, HBL.out.setCell (Nat.le_refl _) _⟩
            have := HXX.out.set_ (6 + j) (.int .u8 bj)
            rwa [bArr_set, HST.out] at this
          case measure => (try simp [intOf]) <;> omega
        · obtain rfl : j = m := by omega
          clear hlt hj HXX HBL
          obtain ⟨v2, rfl⟩ : ∃ v2 : World, v2 = wr := ⟨_, rfl⟩
          have hx2 : Blk v2 (w.heap.size + 1) 26 (bArr (layV (sumV n (bodyV true false b)) true false b 0)) := by
            have e := copyV_all (first := true) (last := false) HB41.out
            rw [HLN.out] at e
            rw [e, List.append_assoc] at hx
            exact hx
          have hsrc := mid_src hx2 (layV_len HB41.out (by omega))
          rw [show midOf (layV (sumV n (bodyV true false b)) true false b 0) = bodyV true false b from by unfold midOf layV; rw [List.drop_left' (by rfl), List.take_left' (bodyV_len HB41.out)]] at hsrc
          have HSRC := Lib.hid hsrc
          have HX2 := Lib.hid hx2
          have HR2 := Lib.hid (HR1.out.below hbl (by omega))
          have HB2 := Lib.hid (HB1.out.trans (hbl.mono (by omega)))
          have hz2 : w.heap.size + 1 < v2.heap.size := hx2.lt
          clear hx hx2 hsrc hbl HX1 HR1 HB1 HM1
          go_wp2_with fail
          refine (refsum_any n _ _ _ _ h0 h1 _ HSRC.out (bodyV_bytes HB41.out HBY.out) (by omega)).mono ?_
          rintro e v3 ⟨rfl, hb3⟩
          have hsb := sumV_range n (bodyV true false b)
          have HX3 := Lib.hid (HX2.out.below hb3 HX2.out.lt)
          have HR3 := Lib.hid (HR2.out.below hb3 HR2.out.lt)
          have HB3 := Lib.hid (HB2.out.trans (hb3.mono (by omega)))
          have HPG := Lib.hid (layV_all n true false b HB41.out)
          clear hb3 HSRC HX2 HR2 HB2
          generalize hs : sumV n (bodyV true false b) = s at *
          clear hs
          obtain ⟨hs0, hs1⟩ := hsb
          go_wp2_with fail
          go_loopw [13] (fun i wr => ∃ j : Nat, j ≤ 4 ∧ i = .int .i64 j ∧ Blk wr (w.heap.size + 1) 26 (bArr (layV s true false b j)) ∧ Below (w.heap.size + 1) v3 wr) (fun i _ => 4 - (intOf i).toNat)
          case atStart => exact ⟨0, by omega, rfl, HX3.out, Below.refl _ _⟩
          case round =>
            obtain ⟨j, hj, rfl, hx, hbl⟩ := hrel
            have HXX := Lib.hid hx
            have HBL := Lib.hid hbl
            have hcell : ∀ i, i < 48 → ∃ u, wr.cell? ⟨w.heap.size + 1, i, none⟩ = some u := fun i hi => ⟨_, by rw [hx.cell, bArr_get _ _ (by rw [layV_len HB41.out hj]; exact hi)]⟩
            obtain ⟨u0, cc0⟩ := hcell 0 (by omega)
            obtain ⟨u1, cc1⟩ := hcell 1 (by omega)
            obtain ⟨u2, cc2⟩ := hcell 2 (by omega)
            obtain ⟨u3, cc3⟩ := hcell 3 (by omega)
            obtain ⟨u4, cc4⟩ := hcell 47 (by omega)
            have ff0 := hx.frozen 0
            have ff1 := hx.frozen 1
            have ff2 := hx.frozen 2
            have ff3 := hx.frozen 3
            have ff4 := hx.frozen 47
            clear hx hbl hcell
            have hjj : j = 0 ∨ j = 1 ∨ j = 2 ∨ j = 3 ∨ j = 4 := by omega
            rcases hjj with rfl | rfl | rfl | rfl | rfl
            · go_wp2_with fail
              go_roundw
              case rel =>
                refine ⟨1, by omega, by first | rfl | go_num, ?_, HBL.out.setCell (Nat.le_refl _) _⟩
                have := HXX.out.set_ 0 (.int .u8 (s / 16777216))
                rw [bArr_set] at this
                have e0 : s / 16777216 = s / 16777216 % 256 := by omega
                rw [e0] at this ⊢
                exact this
              case measure => (try simp [intOf]) <;> omega
            · go_wp2_with fail
              go_roundw
              case rel =>
                refine ⟨2, by omega, by first | rfl | go_num, ?_, HBL.out.setCell (Nat.le_refl _) _⟩
                have := HXX.out.set_ 1 (.int .u8 (s / 65536 % 256))
                rw [bArr_set] at this
                exact this
              case measure => (try simp [intOf]) <;> omega
            · go_wp2_with fail
              go_roundw
              case rel =>
                refine ⟨3, by omega, by first | rfl | go_num, ?_, HBL.out.setCell (Nat.le_refl _) _⟩
                have := HXX.out.set_ 2 (.int .u8 (s / 256 % 256))
                rw [bArr_set] at this
                exact this
              case measure => (try simp [intOf]) <;> omega
            · go_wp2_with fail
              go_roundw
              case rel =>
                refine ⟨4, by omega, by first | rfl | go_num, ?_, HBL.out.setCell (Nat.le_refl _) _⟩
                have := HXX.out.set_ 3 (.int .u8 (s % 256))
                rw [bArr_set] at this
                exact this
              case measure => (try simp [intOf]) <;> omega
            · obtain ⟨v4, rfl⟩ : ∃ v4 : World, v4 = wr := ⟨_, rfl⟩
              have hx5 : Blk (v4.setCell ⟨w.heap.size + 1, 47, none⟩ (.int .u8 90)) (w.heap.size + 1) 26 (bArr (pageV n true false b)) := by
                have := HXX.out.set_ 47 (.int .u8 90)
                rwa [bArr_set, HPG.out] at this
              have HX5 := Lib.hid hx5
              have HR5 := Lib.hid ((HR3.out.below HBL.out (by omega)).far (p := ⟨w.heap.size + 1, 47, none⟩) (by simp) (.int .u8 90))
              have HB5 := Lib.hid ((HB3.out.trans (HBL.out.mono (by omega))).setCell (p := ⟨w.heap.size + 1, 47, none⟩) (by simp) (.int .u8 90))
              have HPL := Lib.hid (pageV_len (n := n) (first := true) (last := false) HB41.out)
              have HR8 := Lib.hid (HR5.out.overwrite (D := bArr (pageV n true false b)) (by rw [bArr_size HPL.out, zArr_size]))
              have HB8 := Lib.hid (HB5.out.trans ((Off.refl w.heap.size w.heap.size _).setCells (.inl rfl) 0 (bArr (pageV n true false b)).toList |>.below (Nat.le_refl _) (Nat.le_refl _) HB5.out.size))
              clear hx5
              generalize hW : (v4.setCell ⟨w.heap.size + 1, 47, none⟩ (.int .u8 90)).setCells w.heap.size 0 (bArr (pageV n true false b)).toList = v8 at *
              have HW8 := Lib.hid hW
              clear hW
              go_wp2_with (first | (refine step_load 26 _ (w.heap.size + 1) 0 (bArr (pageV n true false b)) rfl rfl rfl HX5.out.all _ Try.underlying26 rfl 48 Try.size26 (bArr_size HPL.out) ?_) | (refine step_storeW 26 _ _ w.heap.size 0 (bArr (pageV n true false b)) rfl rfl rfl rfl 48 (HR5.out.allThere zArr_size) Try.size26 (bArr_size HPL.out) (bArr_one _) HW8.out ?_))
              exact bodyPost_ret (v := .tuple #[.agg (bArr (pageV n true false b)), .int .i64 0]) (ret_agg2 rfl _ _ _ _ _ _ _ rfl rfl HR8.out Try.underlying26 rfl 48 Try.size26 (bArr_size HPL.out)) rfl ⟨rfl, HB8.out⟩
    | false =>
      go_upto_region 9 with (fail)
      have hX1 : Blk (v0.setCell ⟨w.heap.size + 1, 5, none⟩ (.int .u8 m)) (w.heap.size + 1) 26 (bArr (startV false false b.length)) := by
        have := (HX.out.set_ 5 (.int .u8 m))
        rw [zb_arr, bArr_set] at this
        rw [HLN.out]
        exact this
      have hL1 : Below (w.heap.size + 1) v0 (v0.setCell ⟨w.heap.size + 1, 5, none⟩ (.int .u8 m)) := (Below.refl (w.heap.size + 1) v0).setCell (Nat.le_refl _) _
      have HX1 := Lib.hid hX1
      have HL1 := Lib.hid hL1
      clear hX1 hL1 c4 c5 f4 f5
      generalize hW : (v0.setCell ⟨w.heap.size + 1, 5, none⟩ (.int .u8 m)) = v1 at *
      clear hW
      have HM1 := Lib.hid (HM.out.below (HL1.out.mono (by omega)))
      have HR1 := Lib.hid (HR.out.below HL1.out (by omega))
      have HB1 := Lib.hid (HL.out.trans (HL1.out.mono (by omega)))
      have hz1 : w.heap.size + 1 < v1.heap.size := HX1.out.lt
      clear HM HR HL HL1 HX
      go_wp2_with fail
      go_loopw [11] (fun i wr => ∃ j : Nat, j ≤ m ∧ i = .int .i64 j ∧ Blk wr (w.heap.size + 1) 26 (bArr (copyV false false b j)) ∧ Below (w.heap.size + 1) v1 wr) (fun i _ => m - (intOf i).toNat)
      case atStart => exact ⟨0, by omega, rfl, by rw [copyV_zero]; exact HX1.out, Below.refl _ _⟩
      case round =>
        obtain ⟨j, hj, rfl, hx, hbl⟩ := hrel
        have HXX := Lib.hid hx
        have HBL := Lib.hid hbl
        by_cases hlt : j < m
        · obtain ⟨ad', e', _, cs⟩ := (HM1.out.below (hbl.mono (by omega))).at_ hlt
          injection e' with e'
          subst e'
          have c6 : wr.cell? ⟨w.heap.size + 1, 6 + j, none⟩ = some (.int .u8 ((copyV false false b j).getD (6 + j) 0)) := by rw [hx.cell, bArr_get _ _ (by rw [copyV_len HB41.out (by rw [HLN.out]; omega)]; omega)]
          have f6 := hx.frozen (6 + j)
          have HST := Lib.hid (copyV_set (first := false) (last := false) HB41.out (show j < b.length by rw [HLN.out]; exact hlt))
          clear hx hbl
          generalize b.getD j 0 = bj at *
          go_wp2_with fail
          go_roundw
          case rel =>
            refine ⟨j + 1, by omega, by go_num, ?_, HBL.out.setCell (Nat.le_refl _) _⟩
            have := HXX.out.set_ (6 + j) (.int .u8 bj)
            rwa [bArr_set, HST.out] at this
          case measure => (try simp [intOf]) <;> omega
        · obtain rfl : j = m := by omega
          clear hlt hj HXX HBL
          obtain ⟨v2, rfl⟩ : ∃ v2 : World, v2 = wr := ⟨_, rfl⟩
          have hx2 : Blk v2 (w.heap.size + 1) 26 (bArr (layV (sumV n (bodyV false false b)) false false b 0)) := by
            have e := copyV_all (first := false) (last := false) HB41.out
            rw [HLN.out] at e
            rw [e, List.append_assoc] at hx
            exact hx
          have hsrc := mid_src hx2 (layV_len HB41.out (by omega))
          rw [show midOf (layV (sumV n (bodyV false false b)) false false b 0) = bodyV false false b from by unfold midOf layV; rw [List.drop_left' (by rfl), List.take_left' (bodyV_len HB41.out)]] at hsrc
          have HSRC := Lib.hid hsrc
          have HX2 := Lib.hid hx2
          have HR2 := Lib.hid (HR1.out.below hbl (by omega))
          have HB2 := Lib.hid (HB1.out.trans (hbl.mono (by omega)))
          have hz2 : w.heap.size + 1 < v2.heap.size := hx2.lt
          clear hx hx2 hsrc hbl HX1 HR1 HB1 HM1
          go_wp2_with fail
          refine (refsum_any n _ _ _ _ h0 h1 _ HSRC.out (bodyV_bytes HB41.out HBY.out) (by omega)).mono ?_
          rintro e v3 ⟨rfl, hb3⟩
          have hsb := sumV_range n (bodyV false false b)
          have HX3 := Lib.hid (HX2.out.below hb3 HX2.out.lt)
          have HR3 := Lib.hid (HR2.out.below hb3 HR2.out.lt)
          have HB3 := Lib.hid (HB2.out.trans (hb3.mono (by omega)))
          have HPG := Lib.hid (layV_all n false false b HB41.out)
          clear hb3 HSRC HX2 HR2 HB2
          generalize hs : sumV n (bodyV false false b) = s at *
          clear hs
          obtain ⟨hs0, hs1⟩ := hsb
          go_wp2_with fail
          go_loopw [13] (fun i wr => ∃ j : Nat, j ≤ 4 ∧ i = .int .i64 j ∧ Blk wr (w.heap.size + 1) 26 (bArr (layV s false false b j)) ∧ Below (w.heap.size + 1) v3 wr) (fun i _ => 4 - (intOf i).toNat)
          case atStart => exact ⟨0, by omega, rfl, HX3.out, Below.refl _ _⟩
          case round =>
            obtain ⟨j, hj, rfl, hx, hbl⟩ := hrel
            have HXX := Lib.hid hx
            have HBL := Lib.hid hbl
            have hcell : ∀ i, i < 48 → ∃ u, wr.cell? ⟨w.heap.size + 1, i, none⟩ = some u := fun i hi => ⟨_, by rw [hx.cell, bArr_get _ _ (by rw [layV_len HB41.out hj]; exact hi)]⟩
            obtain ⟨u0, cc0⟩ := hcell 0 (by omega)
            obtain ⟨u1, cc1⟩ := hcell 1 (by omega)
            obtain ⟨u2, cc2⟩ := hcell 2 (by omega)
            obtain ⟨u3, cc3⟩ := hcell 3 (by omega)
            obtain ⟨u4, cc4⟩ := hcell 47 (by omega)
            have ff0 := hx.frozen 0
            have ff1 := hx.frozen 1
            have ff2 := hx.frozen 2
            have ff3 := hx.frozen 3
            have ff4 := hx.frozen 47
            clear hx hbl hcell
            have hjj : j = 0 ∨ j = 1 ∨ j = 2 ∨ j = 3 ∨ j = 4 := by omega
            rcases hjj with rfl | rfl | rfl | rfl | rfl
            · go_wp2_with fail
              go_roundw
              case rel =>
                refine ⟨1, by omega, by first | rfl | go_num, ?_, HBL.out.setCell (Nat.le_refl _) _⟩
                have := HXX.out.set_ 0 (.int .u8 (s / 16777216))
                rw [bArr_set] at this
                have e0 : s / 16777216 = s / 16777216 % 256 := by omega
                rw [e0] at this ⊢
                exact this
              case measure => (try simp [intOf]) <;> omega
            · go_wp2_with fail
              go_roundw
              case rel =>
                refine ⟨2, by omega, by first | rfl | go_num, ?_, HBL.out.setCell (Nat.le_refl _) _⟩
                have := HXX.out.set_ 1 (.int .u8 (s / 65536 % 256))
                rw [bArr_set] at this
                exact this
              case measure => (try simp [intOf]) <;> omega
            · go_wp2_with fail
              go_roundw
              case rel =>
                refine ⟨3, by omega, by first | rfl | go_num, ?_, HBL.out.setCell (Nat.le_refl _) _⟩
                have := HXX.out.set_ 2 (.int .u8 (s / 256 % 256))
                rw [bArr_set] at this
                exact this
              case measure => (try simp [intOf]) <;> omega
            · go_wp2_with fail
              go_roundw
              case rel =>
                refine ⟨4, by omega, by first | rfl | go_num, ?_, HBL.out.setCell (Nat.le_refl _) _⟩
                have := HXX.out.set_ 3 (.int .u8 (s % 256))
                rw [bArr_set] at this
                exact this
              case measure => (try simp [intOf]) <;> omega
            · obtain ⟨v4, rfl⟩ : ∃ v4 : World, v4 = wr := ⟨_, rfl⟩
              have hx5 : Blk (v4.setCell ⟨w.heap.size + 1, 47, none⟩ (.int .u8 90)) (w.heap.size + 1) 26 (bArr (pageV n false false b)) := by
                have := HXX.out.set_ 47 (.int .u8 90)
                rwa [bArr_set, HPG.out] at this
              have HX5 := Lib.hid hx5
              have HR5 := Lib.hid ((HR3.out.below HBL.out (by omega)).far (p := ⟨w.heap.size + 1, 47, none⟩) (by simp) (.int .u8 90))
              have HB5 := Lib.hid ((HB3.out.trans (HBL.out.mono (by omega))).setCell (p := ⟨w.heap.size + 1, 47, none⟩) (by simp) (.int .u8 90))
              have HPL := Lib.hid (pageV_len (n := n) (first := false) (last := false) HB41.out)
              have HR8 := Lib.hid (HR5.out.overwrite (D := bArr (pageV n false false b)) (by rw [bArr_size HPL.out, zArr_size]))
              have HB8 := Lib.hid (HB5.out.trans ((Off.refl w.heap.size w.heap.size _).setCells (.inl rfl) 0 (bArr (pageV n false false b)).toList |>.below (Nat.le_refl _) (Nat.le_refl _) HB5.out.size))
              clear hx5
              generalize hW : (v4.setCell ⟨w.heap.size + 1, 47, none⟩ (.int .u8 90)).setCells w.heap.size 0 (bArr (pageV n false false b)).toList = v8 at *
              have HW8 := Lib.hid hW
              clear hW
              go_wp2_with (first | (refine step_load 26 _ (w.heap.size + 1) 0 (bArr (pageV n false false b)) rfl rfl rfl HX5.out.all _ Try.underlying26 rfl 48 Try.size26 (bArr_size HPL.out) ?_) | (refine step_storeW 26 _ _ w.heap.size 0 (bArr (pageV n false false b)) rfl rfl rfl rfl 48 (HR5.out.allThere zArr_size) Try.size26 (bArr_size HPL.out) (bArr_one _) HW8.out ?_))
              exact bodyPost_ret (v := .tuple #[.agg (bArr (pageV n false false b)), .int .i64 0]) (ret_agg2 rfl _ _ _ _ _ _ _ rfl rfl HR8.out Try.underlying26 rfl 48 Try.size26 (bArr_size HPL.out)) rfl ⟨rfl, HB8.out⟩
end Go.Proofs.Ytdjkkpefljapcaa
