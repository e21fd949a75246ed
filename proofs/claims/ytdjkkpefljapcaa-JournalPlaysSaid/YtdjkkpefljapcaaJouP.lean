/- The contract of journal.Page. -/
import Derived.Test.YtdjkkpefljapcaaJouB
import Derived.Laws.CopyOwn
import Derived.Deep.DeepCutAuto
import Derived.Laws.ResultCell
namespace Go.Proofs.Ytdjkkpefljapcaa
open Go.RowKit
set_option linter.unusedVariables false
set_option linter.unusedSimpArgs false

/-! ### the leaf of a record -/
def flagV (first last : Bool) : Int := (if first then 1 else 0) + (if last then 2 else 0)
def bodyV (first last : Bool) (b : List Int) : List Int := [flagV first last, (b.length : Int)] ++ b ++ List.replicate (41 - b.length) 0
def pageV (n : Int) (first last : Bool) (b : List Int) : List Int := hi4 (sumV n (bodyV first last b)) ++ bodyV first last b ++ [90]
theorem bodyV_len {first last : Bool} {b : List Int} (h : b.length ≤ 41) : (bodyV first last b).length = 43 := by simp [bodyV]; omega
theorem pageV_len {n : Int} {first last : Bool} {b : List Int} (h : b.length ≤ 41) : (pageV n first last b).length = 48 := by
  unfold pageV
  simp [hi4, bodyV_len h]
theorem bodyV_bytes {first last : Bool} {b : List Int} (h : b.length ≤ 41) (hb : isBytes b) : isBytes (bodyV first last b) := by
  refine isBytes_append (isBytes_append ?_ hb) (isBytes_rep _ _ (by omega) (by omega))
  intro x hx
  simp only [List.mem_cons, List.not_mem_nil, or_false] at hx
  rcases hx with rfl | rfl
  · cases first <;> cases last <;> simp [flagV]
  · omega
theorem pageV_bytes {n : Int} {first last : Bool} {b : List Int} (h : b.length ≤ 41) (hb : isBytes b) : isBytes (pageV n first last b) :=
  isBytes_append (isBytes_append (hi4_bytes _) (bodyV_bytes h hb)) (by intro x hx; simp at hx; omega)
theorem pageV_mid {n : Int} {first last : Bool} {b : List Int} (h : b.length ≤ 41) : midOf (pageV n first last b) = bodyV first last b := by
  unfold midOf pageV
  rw [List.append_assoc, List.drop_left' (by rfl), List.take_left' (bodyV_len h)]

/-- The bytes as they stand before the sum: four bytes 0 ahead. -/
def rawV (first last : Bool) (b : List Int) : List Int := [0, 0, 0, 0] ++ bodyV first last b ++ [90]
theorem rawV_len {first last : Bool} {b : List Int} (h : b.length ≤ 41) : (rawV first last b).length = 48 := by
  unfold rawV
  simp [bodyV_len h]
theorem rawV_bytes {first last : Bool} {b : List Int} (h : b.length ≤ 41) (hb : isBytes b) : isBytes (rawV first last b) :=
  isBytes_append (isBytes_append (by intro x hx; simp at hx; omega) (bodyV_bytes h hb)) (by intro x hx; simp at hx; omega)
theorem rawV_mid {first last : Bool} {b : List Int} (h : b.length ≤ 41) : midOf (rawV first last b) = bodyV first last b := by
  unfold midOf rawV
  rw [List.append_assoc, List.drop_left' (by rfl), List.take_left' (bodyV_len h)]
def startV (first last : Bool) (len : Int) : List Int := [0, 0, 0, 0, flagV first last, len] ++ List.replicate 42 0
theorem startV_splice {first last : Bool} {b : List Int} (h : b.length ≤ 41) :
    (splice ((startV first last b.length).map (Value.int .u8)) 6 (b.map (Value.int .u8))).toArray.setIfInBounds 47 (.int .u8 90) = bArr (rawV first last b) := by
  have e : splice ((startV first last b.length).map (Value.int .u8)) 6 (b.map (Value.int .u8)) = ([0, 0, 0, 0, flagV first last, (b.length : Int)] ++ b ++ List.replicate (42 - b.length) 0).map (Value.int .u8) := by
    unfold splice startV
    rw [← List.map_take, List.length_map, ← List.map_drop, ← List.map_append, ← List.map_append]
    congr 1
    rw [List.take_left' (show ([0, 0, 0, 0, flagV first last, (b.length : Int)] : List Int).length = 6 from rfl), ← List.drop_drop, List.drop_left' (show ([0, 0, 0, 0, flagV first last, (b.length : Int)] : List Int).length = 6 from rfl), List.drop_replicate, List.append_assoc]
  rw [e, show (42 - b.length) = (41 - b.length) + 1 from by omega, List.replicate_succ']
  unfold bArr rawV bodyV
  rw [List.setIfInBounds_toArray]
  congr 1
  rw [← List.map_set]
  congr 1
  have e2 : ([0, 0, 0, 0, flagV first last, (b.length : Int)] ++ b ++ (List.replicate (41 - b.length) 0 ++ [0]) : List Int) = ([0, 0, 0, 0, flagV first last, (b.length : Int)] ++ b ++ List.replicate (41 - b.length) 0) ++ [0] := by simp
  rw [e2, List.set_append_right _ _ (by simp; omega)]
  have e3 : 47 - ([0, 0, 0, 0, flagV first last, (b.length : Int)] ++ b ++ List.replicate (41 - b.length) 0 : List Int).length = 0 := by simp; omega
  rw [e3]
  simp
theorem raw_page {n : Int} {first last : Bool} {b : List Int} (h : b.length ≤ 41) :
    (splice ((rawV first last b).map (Value.int .u8)) 0 ((hi4 (sumV n (bodyV first last b))).map (Value.int .u8))).toArray = bArr (pageV n first last b) := by
  unfold splice rawV pageV bArr
  simp [hi4]


theorem Try.size5 : (Try.prog.info? 5).map (·.size) = some 1 := by kernel_rfl
theorem arr_src {w : World} {g : Nat} {t : TypeId} {bs : List Int} (h : Blk w g t (bArr bs)) : ∀ j u, (bs.map (Value.int .u8))[j]? = some u → w.cell? ((⟨g, 0, none⟩ : Addr).add j) = some u := by
  intro j u hu
  rw [Addr.add_lit, Nat.zero_add, h.cell]
  unfold bArr
  rw [List.getElem?_toArray]
  exact hu
theorem zArr_at (i : Nat) (h : i < 48) : zArr[i]? = some (.int .u8 0) := by
  rw [zb_arr, bArr_get _ _ (by rw [zb_len]; exact h)]
  unfold zb
  rw [List.getD, List.getElem?_replicate, if_pos h]
  rfl

set_option maxRecDepth 100000 in
set_option maxHeartbeats 2000000 in
theorem page_ok (n : Int) (first last : Bool) (ad : Addr) (m cap B : Nat) (b : List Int) (w : World) (h0 : 0 ≤ n) (h1 : n ≤ 20000) (hm : Nums .u8 w B (some ad) m b) (hB : B ≤ w.heap.size) (hb : isBytes b) (m1 : 1 ≤ m) (m2 : m ≤ 41) (hl : last = true ∨ m = 41) :
    Calls Try.prog 30 #[.int .i64 n, .bool first, .bool last, .slice (some ad) m cap] w fun e w' => e = .returned (.tuple #[.agg (bArr (pageV n first last b)), .int .i64 0]) ∧ Below w.heap.size w w' := by
  have hlen := hm.len
  have d1 : decide ((m : Int) < 1) = false := decide_eq_false (by omega)
  have d2 : decide (41 < (m : Int)) = false := decide_eq_false (by omega)
  have d4 : decide (n < 0) = false := decide_eq_false (by omega)
  have d5 : decide (20000 < n) = false := decide_eq_false (by omega)
  have hM : Nums .u8 ((w.alloc (.cells zArr 26)).alloc (.cells zArr 26)) B (some ad) m b := (hm.below ((Below.refl B w).alloc hB _)).below ((Below.refl B (w.alloc (.cells zArr 26))).alloc (by simp; omega) (.cells zArr 26))
  have hR : Blk ((w.alloc (.cells zArr 26)).alloc (.cells zArr 26)) w.heap.size 26 zArr := (Blk.new w 26 _).alloc _
  have hX : Blk ((w.alloc (.cells zArr 26)).alloc (.cells zArr 26)) (w.heap.size + 1) 26 zArr := Blk.new1 w _ 26 _
  have hL : Below w.heap.size w ((w.alloc (.cells zArr 26)).alloc (.cells zArr 26)) := ((Below.refl _ _).alloc (Nat.le_refl _) _).alloc (by simp) _
  have hS : ((w.alloc (.cells zArr 26)).alloc (.cells zArr 26)).heap.size = w.heap.size + 2 := by simp
  have HM := Lib.hid hM
  have HR := Lib.hid hR
  have HL := Lib.hid hL
  have HS := Lib.hid hS
  have HX := Lib.hid hX
  have HLN := Lib.hid hlen
  have HBY := Lib.hid hb
  clear hm hM hR hL hS hX hlen hb
  go_enter Try.func30, Try.ntmps30
  go_upto_region 2 with (with_reducible refine step_alloc 26 zArr Try.zero26 rfl rfl ?_)
  generalize hW : (w.alloc (.cells zArr 26)).alloc (.cells zArr 26) = v0 at *
  clear hW
  have c4 : v0.cell? ⟨w.heap.size + 1, 4, none⟩ = some (.int .u8 0) := by rw [HX.out.cell]; exact zArr_at 4 (by omega)
  have c5 : v0.cell? ⟨w.heap.size + 1, 5, none⟩ = some (.int .u8 0) := by rw [HX.out.cell]; exact zArr_at 5 (by omega)
  have f4 := HX.out.frozen 4
  have f5 := HX.out.frozen 5
  have hb41 : b.length ≤ 41 := by rw [HLN.out]; exact m2
  have HB41 := Lib.hid hb41
  clear hb41
  by_cases h41 : m < 41
  · have hlast : last = true := hl.resolve_right (by omega)
    subst hlast
    have d3 : decide ((m : Int) < 41) = true := decide_eq_true (by omega)
    clear hl
    cases first
    · go_upto_region 9 with (fail)
      have hX1 : Blk ((v0.setCell ⟨w.heap.size + 1, 4, none⟩ (.int .u8 2)).setCell ⟨w.heap.size + 1, 5, none⟩ (.int .u8 m)) (w.heap.size + 1) 26 (bArr (startV false true b.length)) := by
        have := ((HX.out.set_ 4 (.int .u8 2)).set_ 5 (.int .u8 m))
        rw [zb_arr, bArr_set, bArr_set] at this
        rw [HLN.out]
        exact this
      have hL1 : Below (w.heap.size + 1) v0 ((v0.setCell ⟨w.heap.size + 1, 4, none⟩ (.int .u8 2)).setCell ⟨w.heap.size + 1, 5, none⟩ (.int .u8 m)) := ((Below.refl (w.heap.size + 1) v0).setCell (Nat.le_refl _) _).setCell (Nat.le_refl _) _
      have HX1 := Lib.hid hX1
      have HL1 := Lib.hid hL1
      clear hX1 hL1 c4 c5 f4 f5
      generalize hW : ((v0.setCell ⟨w.heap.size + 1, 4, none⟩ (.int .u8 2)).setCell ⟨w.heap.size + 1, 5, none⟩ (.int .u8 m)) = v1 at *
      clear hW
      have HM1 := Lib.hid (HM.out.below (HL1.out.mono (by omega)))
      have HR1 := Lib.hid (HR.out.below HL1.out (by omega))
      have HB1 := Lib.hid (HL.out.trans (HL1.out.mono (by omega)))
      have hml : (b.map (Value.int .u8)).length = Nat.min m 42 := by rw [List.length_map, HLN.out]; exact (Nat.min_eq_left (by omega)).symm
      have HML := Lib.hid hml
      have hfit : 6 + (b.map (Value.int .u8)).length ≤ ((startV false true b.length).map (Value.int .u8)).length := by rw [List.length_map, List.length_map, HLN.out]; (try simp [startV]) <;> omega
      have HFIT := Lib.hid hfit
      clear hml hfit HM HR HL HL1
      go_wp2_with (refine wpList_copy_splice rfl (.tmp 52) (.tmp 53) 44 44 rfl 5 Try.underlying44 Try.size5 (some ⟨w.heap.size + 1, 6, none⟩) (some ad) 42 42 m cap rfl rfl (w.heap.size + 1) 6 ((startV false true b.length).map (Value.int .u8)) 26 HX1.out (b.map (Value.int .u8)) HML.out (fun _ => ⟨rfl, ad, rfl, HM1.out.src (by omega)⟩) HFIT.out (ints_oneCell _ _) (w.heap.size + 1) v1 (Below.refl _ _) (Nat.le_refl _) ?_)
      intro v2 hh hl2
      have hX2 : Blk v2 (w.heap.size + 1) 26 (splice ((startV false true b.length).map (Value.int .u8)) 6 (b.map (Value.int .u8))).toArray := hh.out
      have hX3 : Blk (v2.setCell ⟨w.heap.size + 1, 47, none⟩ (.int .u8 90)) (w.heap.size + 1) 26 (bArr (rawV false true b)) := by
        have := hX2.set_ 47 (.int .u8 90)
        rwa [startV_splice HB41.out] at this
      have hc47 : ∃ u, v2.cell? ⟨w.heap.size + 1, 47, none⟩ = some u := by
        refine ⟨_, (hX2.cell 47).trans (Array.getElem?_eq_getElem (by simp only [List.size_toArray]; rw [length_splice _ _ _ HFIT.out]; simp [startV]))⟩
      obtain ⟨u47, c47⟩ := hc47
      have f47 := hX2.frozen 47
      have HX3 := Lib.hid hX3
      have HR3 := Lib.hid ((HR1.out.below hl2 (by omega)).far (p := ⟨w.heap.size + 1, 47, none⟩) (by simp) (.int .u8 90))
      have HB3 := Lib.hid ((HB1.out.trans (hl2.mono (by omega))).setCell (p := ⟨w.heap.size + 1, 47, none⟩) (by simp) (.int .u8 90))
      have HRL := Lib.hid (rawV_len (first := false) (last := true) HB41.out)
      have HRB := Lib.hid (rawV_bytes (first := false) (last := true) HB41.out HBY.out)
      clear hh hl2 hX2 hX3 HX1 HR1 HB1 HML HFIT HM1
      go_wp2_with (refine step_load 26 _ (w.heap.size + 1) 0 (bArr (rawV false true b)) rfl rfl rfl HX3.out.all _ Try.underlying26 rfl 48 Try.size26 (bArr_size HRL.out) ?_)
      refine (jsum_any n (rawV false true b) h0 h1 HRL.out HRB.out _).mono ?_
      rintro e v4 ⟨rfl, hb4⟩
      rw [rawV_mid HB41.out]
      have HX4 := Lib.hid (HX3.out.below hb4 HX3.out.lt)
      have HR4 := Lib.hid (HR3.out.below hb4 HR3.out.lt)
      have HB4 := Lib.hid (HB3.out.trans (hb4.mono HB3.out.size))
      clear hb4 HX3 HR3 HB3 c47 f47
      generalize hs : hi4 (sumV n (bodyV false true b)) = s4 at *
      have HS4 := Lib.hid hs
      have HSL := Lib.hid (show s4.length = 4 by rw [← hs]; rfl)
      clear hs
      have hZ : Blk (v4.alloc (.cells (bArr [0, 0, 0, 0]) 82)) v4.heap.size 82 (bArr [0, 0, 0, 0]) := Blk.new v4 82 _
      have hP : Blk ((v4.alloc (.cells (bArr [0, 0, 0, 0]) 82)).setCells v4.heap.size 0 (bArr s4).toList) v4.heap.size 82 (bArr s4) := hZ.overwrite (by simp [bArr, HSL.out])
      have hBP : Below v4.heap.size v4 ((v4.alloc (.cells (bArr [0, 0, 0, 0]) 82)).setCells v4.heap.size 0 (bArr s4).toList) := ((Below.refl _ _).alloc (Nat.le_refl _) _).trans ((Off.refl v4.heap.size v4.heap.size _).setCells (.inl rfl) _ _ |>.below (Nat.le_refl _) (Nat.le_refl _) (by simp))
      have HZ := Lib.hid hZ
      have HP := Lib.hid hP
      have HX5 := Lib.hid (HX4.out.below hBP HX4.out.lt)
      have HR5 := Lib.hid (HR4.out.below hBP HR4.out.lt)
      have HB5 := Lib.hid (HB4.out.trans (hBP.mono HB4.out.size))
      have hg4 : w.heap.size + 1 < v4.heap.size := HX4.out.lt
      clear hZ hP hBP HX4 HR4 HB4
      generalize hW : (v4.alloc (.cells (bArr [0, 0, 0, 0]) 82)).setCells v4.heap.size 0 (bArr s4).toList = v5 at *
      have HW := Lib.hid hW
      clear hW
      go_wp2_with (first | (with_reducible refine step_alloc 82 (bArr [0, 0, 0, 0]) Try.zero82 rfl rfl ?_) | (refine step_storeW 82 _ _ v4.heap.size 0 (bArr s4) rfl rfl rfl rfl 4 (HZ.out.allThere rfl) Try.size82 (by simp [bArr, HSL.out]) (bArr_one _) HW.out ?_))
      refine wp_region_still_tail 2 (by kernel_rfl) (by kernel_rfl) ?_
      simp only [List.take_succ_cons, List.take_zero, List.drop_succ_cons, List.drop_zero]
      repeat still_step
      refine wpStill_nil ?_
      change wpList _ _ _ _ _ v5.drew
      have HX6 := Lib.hid HX5.out.drew
      have HP6 := Lib.hid HP.out.drew
      have HRL2 := Lib.hid (show 0 + (s4.map (Value.int .u8)).length ≤ ((rawV false true b).map (Value.int .u8)).length by rw [List.length_map, List.length_map, HSL.out, HRL.out]; omega)
      go_wp2_with (refine wpList_copy_splice rfl (.tmp 59) (.tmp 60) 44 44 rfl 5 Try.underlying44 Try.size5 (some ⟨w.heap.size + 1, 0, none⟩) (some ⟨v4.heap.size, 0, none⟩) 48 48 4 4 rfl rfl (w.heap.size + 1) 0 ((rawV false true b).map (Value.int .u8)) 26 HX6.out (s4.map (Value.int .u8)) (by rw [List.length_map, HSL.out]; rfl) (fun _ => ⟨rfl, _, rfl, arr_src HP6.out⟩) HRL2.out (ints_oneCell _ _) (w.heap.size + 1) v5.drew (Below.refl _ _) (Nat.le_refl _) ?_)
      intro v6 hh hl6
      have hX7 : Blk v6 (w.heap.size + 1) 26 (bArr (pageV n false true b)) := by
        have h7 : Blk v6 (w.heap.size + 1) 26 (splice ((rawV false true b).map (Value.int .u8)) 0 (s4.map (Value.int .u8))).toArray := hh.out
        rw [← HS4.out, raw_page HB41.out] at h7
        exact h7
      have HX7 := Lib.hid hX7
      have HR7 := Lib.hid (HR5.out.drew.below hl6 (by omega))
      have HB7 := Lib.hid (HB5.out.drew.trans (hl6.mono (by omega)))
      have HPL := Lib.hid (pageV_len (n := n) (first := false) (last := true) HB41.out)
      clear hX7 hh hl6 HX6 HP6 HX5 HR5 HB5
      have hR8 : Blk (v6.setCells w.heap.size 0 (bArr (pageV n false true b)).toList) w.heap.size 26 (bArr (pageV n false true b)) := HR7.out.overwrite (by rw [bArr_size HPL.out, zArr_size])
      have hB8 : Below w.heap.size w (v6.setCells w.heap.size 0 (bArr (pageV n false true b)).toList) := HB7.out.trans ((Off.refl w.heap.size w.heap.size v6).setCells (.inl rfl) _ _ |>.below (Nat.le_refl _) (Nat.le_refl _) HB7.out.size)
      have HR8 := Lib.hid hR8
      have HB8 := Lib.hid hB8
      clear hR8 hB8
      generalize hW : v6.setCells w.heap.size 0 (bArr (pageV n false true b)).toList = v8 at *
      have HW8 := Lib.hid hW
      clear hW
      go_wp2_with (first | (refine step_load 26 _ (w.heap.size + 1) 0 (bArr (pageV n false true b)) rfl rfl rfl HX7.out.all _ Try.underlying26 rfl 48 Try.size26 (bArr_size HPL.out) ?_) | (refine step_storeW 26 _ _ w.heap.size 0 (bArr (pageV n false true b)) rfl rfl rfl rfl 48 (HR7.out.allThere zArr_size) Try.size26 (bArr_size HPL.out) (bArr_one _) HW8.out ?_))
      exact bodyPost_ret (v := .tuple #[.agg (bArr (pageV n false true b)), .int .i64 0]) (ret_agg2 rfl _ _ _ _ _ _ _ rfl rfl HR8.out Try.underlying26 rfl 48 Try.size26 (bArr_size HPL.out)) rfl ⟨rfl, HB8.out⟩
    · go_upto_region 9 with (fail)
      have hX1 : Blk (((v0.setCell ⟨w.heap.size + 1, 4, none⟩ (.int .u8 1)).setCell ⟨w.heap.size + 1, 4, none⟩ (.int .u8 3)).setCell ⟨w.heap.size + 1, 5, none⟩ (.int .u8 m)) (w.heap.size + 1) 26 (bArr (startV true true b.length)) := by
        have := (((HX.out.set_ 4 (.int .u8 1)).set_ 4 (.int .u8 3)).set_ 5 (.int .u8 m))
        rw [zb_arr, bArr_set, bArr_set, bArr_set] at this
        rw [HLN.out]
        exact this
      have hL1 : Below (w.heap.size + 1) v0 (((v0.setCell ⟨w.heap.size + 1, 4, none⟩ (.int .u8 1)).setCell ⟨w.heap.size + 1, 4, none⟩ (.int .u8 3)).setCell ⟨w.heap.size + 1, 5, none⟩ (.int .u8 m)) := (((Below.refl (w.heap.size + 1) v0).setCell (Nat.le_refl _) _).setCell (Nat.le_refl _) _).setCell (Nat.le_refl _) _
      have HX1 := Lib.hid hX1
      have HL1 := Lib.hid hL1
      clear hX1 hL1 c4 c5 f4 f5
      generalize hW : (((v0.setCell ⟨w.heap.size + 1, 4, none⟩ (.int .u8 1)).setCell ⟨w.heap.size + 1, 4, none⟩ (.int .u8 3)).setCell ⟨w.heap.size + 1, 5, none⟩ (.int .u8 m)) = v1 at *
      clear hW
      have HM1 := Lib.hid (HM.out.below (HL1.out.mono (by omega)))
      have HR1 := Lib.hid (HR.out.below HL1.out (by omega))
      have HB1 := Lib.hid (HL.out.trans (HL1.out.mono (by omega)))
      have hml : (b.map (Value.int .u8)).length = Nat.min m 42 := by rw [List.length_map, HLN.out]; exact (Nat.min_eq_left (by omega)).symm
      have HML := Lib.hid hml
      have hfit : 6 + (b.map (Value.int .u8)).length ≤ ((startV true true b.length).map (Value.int .u8)).length := by rw [List.length_map, List.length_map, HLN.out]; (try simp [startV]) <;> omega
      have HFIT := Lib.hid hfit
      clear hml hfit HM HR HL HL1
      go_wp2_with (refine wpList_copy_splice rfl (.tmp 52) (.tmp 53) 44 44 rfl 5 Try.underlying44 Try.size5 (some ⟨w.heap.size + 1, 6, none⟩) (some ad) 42 42 m cap rfl rfl (w.heap.size + 1) 6 ((startV true true b.length).map (Value.int .u8)) 26 HX1.out (b.map (Value.int .u8)) HML.out (fun _ => ⟨rfl, ad, rfl, HM1.out.src (by omega)⟩) HFIT.out (ints_oneCell _ _) (w.heap.size + 1) v1 (Below.refl _ _) (Nat.le_refl _) ?_)
      intro v2 hh hl2
      have hX2 : Blk v2 (w.heap.size + 1) 26 (splice ((startV true true b.length).map (Value.int .u8)) 6 (b.map (Value.int .u8))).toArray := hh.out
      have hX3 : Blk (v2.setCell ⟨w.heap.size + 1, 47, none⟩ (.int .u8 90)) (w.heap.size + 1) 26 (bArr (rawV true true b)) := by
        have := hX2.set_ 47 (.int .u8 90)
        rwa [startV_splice HB41.out] at this
      have hc47 : ∃ u, v2.cell? ⟨w.heap.size + 1, 47, none⟩ = some u := by
        refine ⟨_, (hX2.cell 47).trans (Array.getElem?_eq_getElem (by simp only [List.size_toArray]; rw [length_splice _ _ _ HFIT.out]; simp [startV]))⟩
      obtain ⟨u47, c47⟩ := hc47
      have f47 := hX2.frozen 47
      have HX3 := Lib.hid hX3
      have HR3 := Lib.hid ((HR1.out.below hl2 (by omega)).far (p := ⟨w.heap.size + 1, 47, none⟩) (by simp) (.int .u8 90))
      have HB3 := Lib.hid ((HB1.out.trans (hl2.mono (by omega))).setCell (p := ⟨w.heap.size + 1, 47, none⟩) (by simp) (.int .u8 90))
      have HRL := Lib.hid (rawV_len (first := true) (last := true) HB41.out)
      have HRB := Lib.hid (rawV_bytes (first := true) (last := true) HB41.out HBY.out)
      clear hh hl2 hX2 hX3 HX1 HR1 HB1 HML HFIT HM1
      go_wp2_with (refine step_load 26 _ (w.heap.size + 1) 0 (bArr (rawV true true b)) rfl rfl rfl HX3.out.all _ Try.underlying26 rfl 48 Try.size26 (bArr_size HRL.out) ?_)
      refine (jsum_any n (rawV true true b) h0 h1 HRL.out HRB.out _).mono ?_
      rintro e v4 ⟨rfl, hb4⟩
      rw [rawV_mid HB41.out]
      have HX4 := Lib.hid (HX3.out.below hb4 HX3.out.lt)
      have HR4 := Lib.hid (HR3.out.below hb4 HR3.out.lt)
      have HB4 := Lib.hid (HB3.out.trans (hb4.mono HB3.out.size))
      clear hb4 HX3 HR3 HB3 c47 f47
      generalize hs : hi4 (sumV n (bodyV true true b)) = s4 at *
      have HS4 := Lib.hid hs
      have HSL := Lib.hid (show s4.length = 4 by rw [← hs]; rfl)
      clear hs
      have hZ : Blk (v4.alloc (.cells (bArr [0, 0, 0, 0]) 82)) v4.heap.size 82 (bArr [0, 0, 0, 0]) := Blk.new v4 82 _
      have hP : Blk ((v4.alloc (.cells (bArr [0, 0, 0, 0]) 82)).setCells v4.heap.size 0 (bArr s4).toList) v4.heap.size 82 (bArr s4) := hZ.overwrite (by simp [bArr, HSL.out])
      have hBP : Below v4.heap.size v4 ((v4.alloc (.cells (bArr [0, 0, 0, 0]) 82)).setCells v4.heap.size 0 (bArr s4).toList) := ((Below.refl _ _).alloc (Nat.le_refl _) _).trans ((Off.refl v4.heap.size v4.heap.size _).setCells (.inl rfl) _ _ |>.below (Nat.le_refl _) (Nat.le_refl _) (by simp))
      have HZ := Lib.hid hZ
      have HP := Lib.hid hP
      have HX5 := Lib.hid (HX4.out.below hBP HX4.out.lt)
      have HR5 := Lib.hid (HR4.out.below hBP HR4.out.lt)
      have HB5 := Lib.hid (HB4.out.trans (hBP.mono HB4.out.size))
      have hg4 : w.heap.size + 1 < v4.heap.size := HX4.out.lt
      clear hZ hP hBP HX4 HR4 HB4
      generalize hW : (v4.alloc (.cells (bArr [0, 0, 0, 0]) 82)).setCells v4.heap.size 0 (bArr s4).toList = v5 at *
      have HW := Lib.hid hW
      clear hW
      go_wp2_with (first | (with_reducible refine step_alloc 82 (bArr [0, 0, 0, 0]) Try.zero82 rfl rfl ?_) | (refine step_storeW 82 _ _ v4.heap.size 0 (bArr s4) rfl rfl rfl rfl 4 (HZ.out.allThere rfl) Try.size82 (by simp [bArr, HSL.out]) (bArr_one _) HW.out ?_))
      refine wp_region_still_tail 2 (by kernel_rfl) (by kernel_rfl) ?_
      simp only [List.take_succ_cons, List.take_zero, List.drop_succ_cons, List.drop_zero]
      repeat still_step
      refine wpStill_nil ?_
      change wpList _ _ _ _ _ v5.drew
      have HX6 := Lib.hid HX5.out.drew
      have HP6 := Lib.hid HP.out.drew
      have HRL2 := Lib.hid (show 0 + (s4.map (Value.int .u8)).length ≤ ((rawV true true b).map (Value.int .u8)).length by rw [List.length_map, List.length_map, HSL.out, HRL.out]; omega)
      go_wp2_with (refine wpList_copy_splice rfl (.tmp 59) (.tmp 60) 44 44 rfl 5 Try.underlying44 Try.size5 (some ⟨w.heap.size + 1, 0, none⟩) (some ⟨v4.heap.size, 0, none⟩) 48 48 4 4 rfl rfl (w.heap.size + 1) 0 ((rawV true true b).map (Value.int .u8)) 26 HX6.out (s4.map (Value.int .u8)) (by rw [List.length_map, HSL.out]; rfl) (fun _ => ⟨rfl, _, rfl, arr_src HP6.out⟩) HRL2.out (ints_oneCell _ _) (w.heap.size + 1) v5.drew (Below.refl _ _) (Nat.le_refl _) ?_)
      intro v6 hh hl6
      have hX7 : Blk v6 (w.heap.size + 1) 26 (bArr (pageV n true true b)) := by
        have h7 : Blk v6 (w.heap.size + 1) 26 (splice ((rawV true true b).map (Value.int .u8)) 0 (s4.map (Value.int .u8))).toArray := hh.out
        rw [← HS4.out, raw_page HB41.out] at h7
        exact h7
      have HX7 := Lib.hid hX7
      have HR7 := Lib.hid (HR5.out.drew.below hl6 (by omega))
      have HB7 := Lib.hid (HB5.out.drew.trans (hl6.mono (by omega)))
      have HPL := Lib.hid (pageV_len (n := n) (first := true) (last := true) HB41.out)
      clear hX7 hh hl6 HX6 HP6 HX5 HR5 HB5
      have hR8 : Blk (v6.setCells w.heap.size 0 (bArr (pageV n true true b)).toList) w.heap.size 26 (bArr (pageV n true true b)) := HR7.out.overwrite (by rw [bArr_size HPL.out, zArr_size])
      have hB8 : Below w.heap.size w (v6.setCells w.heap.size 0 (bArr (pageV n true true b)).toList) := HB7.out.trans ((Off.refl w.heap.size w.heap.size v6).setCells (.inl rfl) _ _ |>.below (Nat.le_refl _) (Nat.le_refl _) HB7.out.size)
      have HR8 := Lib.hid hR8
      have HB8 := Lib.hid hB8
      clear hR8 hB8
      generalize hW : v6.setCells w.heap.size 0 (bArr (pageV n true true b)).toList = v8 at *
      have HW8 := Lib.hid hW
      clear hW
      go_wp2_with (first | (refine step_load 26 _ (w.heap.size + 1) 0 (bArr (pageV n true true b)) rfl rfl rfl HX7.out.all _ Try.underlying26 rfl 48 Try.size26 (bArr_size HPL.out) ?_) | (refine step_storeW 26 _ _ w.heap.size 0 (bArr (pageV n true true b)) rfl rfl rfl rfl 48 (HR7.out.allThere zArr_size) Try.size26 (bArr_size HPL.out) (bArr_one _) HW8.out ?_))
      exact bodyPost_ret (v := .tuple #[.agg (bArr (pageV n true true b)), .int .i64 0]) (ret_agg2 rfl _ _ _ _ _ _ _ rfl rfl HR8.out Try.underlying26 rfl 48 Try.size26 (bArr_size HPL.out)) rfl ⟨rfl, HB8.out⟩
  · have hm41 : m = 41 := by omega
    subst hm41
    have d3 : decide (((41 : Nat) : Int) < 41) = false := by decide
    clear hl
    cases first
    · cases last
      · go_upto_region 9 with (fail)
        have hX1 : Blk (v0.setCell ⟨w.heap.size + 1, 5, none⟩ (.int .u8 (41 : Nat))) (w.heap.size + 1) 26 (bArr (startV false false b.length)) := by
          have := (HX.out.set_ 5 (.int .u8 (41 : Nat)))
          rw [zb_arr, bArr_set] at this
          rw [HLN.out]
          exact this
        have hL1 : Below (w.heap.size + 1) v0 (v0.setCell ⟨w.heap.size + 1, 5, none⟩ (.int .u8 (41 : Nat))) := (Below.refl (w.heap.size + 1) v0).setCell (Nat.le_refl _) _
        have HX1 := Lib.hid hX1
        have HL1 := Lib.hid hL1
        clear hX1 hL1 c4 c5 f4 f5
        generalize hW : (v0.setCell ⟨w.heap.size + 1, 5, none⟩ (.int .u8 (41 : Nat))) = v1 at *
        clear hW
        have HM1 := Lib.hid (HM.out.below (HL1.out.mono (by omega)))
        have HR1 := Lib.hid (HR.out.below HL1.out (by omega))
        have HB1 := Lib.hid (HL.out.trans (HL1.out.mono (by omega)))
        have hml : (b.map (Value.int .u8)).length = Nat.min 41 42 := by rw [List.length_map, HLN.out]; exact (Nat.min_eq_left (by omega)).symm
        have HML := Lib.hid hml
        have hfit : 6 + (b.map (Value.int .u8)).length ≤ ((startV false false b.length).map (Value.int .u8)).length := by rw [List.length_map, List.length_map, HLN.out]; (try simp [startV]) <;> omega
        have HFIT := Lib.hid hfit
        clear hml hfit HM HR HL HL1
        go_wp2_with (refine wpList_copy_splice rfl (.tmp 52) (.tmp 53) 44 44 rfl 5 Try.underlying44 Try.size5 (some ⟨w.heap.size + 1, 6, none⟩) (some ad) 42 42 41 cap rfl rfl (w.heap.size + 1) 6 ((startV false false b.length).map (Value.int .u8)) 26 HX1.out (b.map (Value.int .u8)) HML.out (fun _ => ⟨rfl, ad, rfl, HM1.out.src (by omega)⟩) HFIT.out (ints_oneCell _ _) (w.heap.size + 1) v1 (Below.refl _ _) (Nat.le_refl _) ?_)
        intro v2 hh hl2
        have hX2 : Blk v2 (w.heap.size + 1) 26 (splice ((startV false false b.length).map (Value.int .u8)) 6 (b.map (Value.int .u8))).toArray := hh.out
        have hX3 : Blk (v2.setCell ⟨w.heap.size + 1, 47, none⟩ (.int .u8 90)) (w.heap.size + 1) 26 (bArr (rawV false false b)) := by
          have := hX2.set_ 47 (.int .u8 90)
          rwa [startV_splice HB41.out] at this
        have hc47 : ∃ u, v2.cell? ⟨w.heap.size + 1, 47, none⟩ = some u := by
          refine ⟨_, (hX2.cell 47).trans (Array.getElem?_eq_getElem (by simp only [List.size_toArray]; rw [length_splice _ _ _ HFIT.out]; simp [startV]))⟩
        obtain ⟨u47, c47⟩ := hc47
        have f47 := hX2.frozen 47
        have HX3 := Lib.hid hX3
        have HR3 := Lib.hid ((HR1.out.below hl2 (by omega)).far (p := ⟨w.heap.size + 1, 47, none⟩) (by simp) (.int .u8 90))
        have HB3 := Lib.hid ((HB1.out.trans (hl2.mono (by omega))).setCell (p := ⟨w.heap.size + 1, 47, none⟩) (by simp) (.int .u8 90))
        have HRL := Lib.hid (rawV_len (first := false) (last := false) HB41.out)
        have HRB := Lib.hid (rawV_bytes (first := false) (last := false) HB41.out HBY.out)
        clear hh hl2 hX2 hX3 HX1 HR1 HB1 HML HFIT HM1
        go_wp2_with (refine step_load 26 _ (w.heap.size + 1) 0 (bArr (rawV false false b)) rfl rfl rfl HX3.out.all _ Try.underlying26 rfl 48 Try.size26 (bArr_size HRL.out) ?_)
        refine (jsum_any n (rawV false false b) h0 h1 HRL.out HRB.out _).mono ?_
        rintro e v4 ⟨rfl, hb4⟩
        rw [rawV_mid HB41.out]
        have HX4 := Lib.hid (HX3.out.below hb4 HX3.out.lt)
        have HR4 := Lib.hid (HR3.out.below hb4 HR3.out.lt)
        have HB4 := Lib.hid (HB3.out.trans (hb4.mono HB3.out.size))
        clear hb4 HX3 HR3 HB3 c47 f47
        generalize hs : hi4 (sumV n (bodyV false false b)) = s4 at *
        have HS4 := Lib.hid hs
        have HSL := Lib.hid (show s4.length = 4 by rw [← hs]; rfl)
        clear hs
        have hZ : Blk (v4.alloc (.cells (bArr [0, 0, 0, 0]) 82)) v4.heap.size 82 (bArr [0, 0, 0, 0]) := Blk.new v4 82 _
        have hP : Blk ((v4.alloc (.cells (bArr [0, 0, 0, 0]) 82)).setCells v4.heap.size 0 (bArr s4).toList) v4.heap.size 82 (bArr s4) := hZ.overwrite (by simp [bArr, HSL.out])
        have hBP : Below v4.heap.size v4 ((v4.alloc (.cells (bArr [0, 0, 0, 0]) 82)).setCells v4.heap.size 0 (bArr s4).toList) := ((Below.refl _ _).alloc (Nat.le_refl _) _).trans ((Off.refl v4.heap.size v4.heap.size _).setCells (.inl rfl) _ _ |>.below (Nat.le_refl _) (Nat.le_refl _) (by simp))
        have HZ := Lib.hid hZ
        have HP := Lib.hid hP
        have HX5 := Lib.hid (HX4.out.below hBP HX4.out.lt)
        have HR5 := Lib.hid (HR4.out.below hBP HR4.out.lt)
        have HB5 := Lib.hid (HB4.out.trans (hBP.mono HB4.out.size))
        have hg4 : w.heap.size + 1 < v4.heap.size := HX4.out.lt
        clear hZ hP hBP HX4 HR4 HB4
        generalize hW : (v4.alloc (.cells (bArr [0, 0, 0, 0]) 82)).setCells v4.heap.size 0 (bArr s4).toList = v5 at *
        have HW := Lib.hid hW
        clear hW
        go_wp2_with (first | (with_reducible refine step_alloc 82 (bArr [0, 0, 0, 0]) Try.zero82 rfl rfl ?_) | (refine step_storeW 82 _ _ v4.heap.size 0 (bArr s4) rfl rfl rfl rfl 4 (HZ.out.allThere rfl) Try.size82 (by simp [bArr, HSL.out]) (bArr_one _) HW.out ?_))
        refine wp_region_still_tail 2 (by kernel_rfl) (by kernel_rfl) ?_
        simp only [List.take_succ_cons, List.take_zero, List.drop_succ_cons, List.drop_zero]
        repeat still_step
        refine wpStill_nil ?_
        change wpList _ _ _ _ _ v5.drew
        have HX6 := Lib.hid HX5.out.drew
        have HP6 := Lib.hid HP.out.drew
        have HRL2 := Lib.hid (show 0 + (s4.map (Value.int .u8)).length ≤ ((rawV false false b).map (Value.int .u8)).length by rw [List.length_map, List.length_map, HSL.out, HRL.out]; omega)
        go_wp2_with (refine wpList_copy_splice rfl (.tmp 59) (.tmp 60) 44 44 rfl 5 Try.underlying44 Try.size5 (some ⟨w.heap.size + 1, 0, none⟩) (some ⟨v4.heap.size, 0, none⟩) 48 48 4 4 rfl rfl (w.heap.size + 1) 0 ((rawV false false b).map (Value.int .u8)) 26 HX6.out (s4.map (Value.int .u8)) (by rw [List.length_map, HSL.out]; rfl) (fun _ => ⟨rfl, _, rfl, arr_src HP6.out⟩) HRL2.out (ints_oneCell _ _) (w.heap.size + 1) v5.drew (Below.refl _ _) (Nat.le_refl _) ?_)
        intro v6 hh hl6
        have hX7 : Blk v6 (w.heap.size + 1) 26 (bArr (pageV n false false b)) := by
          have h7 : Blk v6 (w.heap.size + 1) 26 (splice ((rawV false false b).map (Value.int .u8)) 0 (s4.map (Value.int .u8))).toArray := hh.out
          rw [← HS4.out, raw_page HB41.out] at h7
          exact h7
        have HX7 := Lib.hid hX7
        have HR7 := Lib.hid (HR5.out.drew.below hl6 (by omega))
        have HB7 := Lib.hid (HB5.out.drew.trans (hl6.mono (by omega)))
        have HPL := Lib.hid (pageV_len (n := n) (first := false) (last := false) HB41.out)
        clear hX7 hh hl6 HX6 HP6 HX5 HR5 HB5
        have hR8 : Blk (v6.setCells w.heap.size 0 (bArr (pageV n false false b)).toList) w.heap.size 26 (bArr (pageV n false false b)) := HR7.out.overwrite (by rw [bArr_size HPL.out, zArr_size])
        have hB8 : Below w.heap.size w (v6.setCells w.heap.size 0 (bArr (pageV n false false b)).toList) := HB7.out.trans ((Off.refl w.heap.size w.heap.size v6).setCells (.inl rfl) _ _ |>.below (Nat.le_refl _) (Nat.le_refl _) HB7.out.size)
        have HR8 := Lib.hid hR8
        have HB8 := Lib.hid hB8
        clear hR8 hB8
        generalize hW : v6.setCells w.heap.size 0 (bArr (pageV n false false b)).toList = v8 at *
        have HW8 := Lib.hid hW
        clear hW
        go_wp2_with (first | (refine step_load 26 _ (w.heap.size + 1) 0 (bArr (pageV n false false b)) rfl rfl rfl HX7.out.all _ Try.underlying26 rfl 48 Try.size26 (bArr_size HPL.out) ?_) | (refine step_storeW 26 _ _ w.heap.size 0 (bArr (pageV n false false b)) rfl rfl rfl rfl 48 (HR7.out.allThere zArr_size) Try.size26 (bArr_size HPL.out) (bArr_one _) HW8.out ?_))
        exact bodyPost_ret (v := .tuple #[.agg (bArr (pageV n false false b)), .int .i64 0]) (ret_agg2 rfl _ _ _ _ _ _ _ rfl rfl HR8.out Try.underlying26 rfl 48 Try.size26 (bArr_size HPL.out)) rfl ⟨rfl, HB8.out⟩
      · go_upto_region 9 with (fail)
        have hX1 : Blk ((v0.setCell ⟨w.heap.size + 1, 4, none⟩ (.int .u8 2)).setCell ⟨w.heap.size + 1, 5, none⟩ (.int .u8 (41 : Nat))) (w.heap.size + 1) 26 (bArr (startV false true b.length)) := by
          have := ((HX.out.set_ 4 (.int .u8 2)).set_ 5 (.int .u8 (41 : Nat)))
          rw [zb_arr, bArr_set, bArr_set] at this
          rw [HLN.out]
          exact this
        have hL1 : Below (w.heap.size + 1) v0 ((v0.setCell ⟨w.heap.size + 1, 4, none⟩ (.int .u8 2)).setCell ⟨w.heap.size + 1, 5, none⟩ (.int .u8 (41 : Nat))) := ((Below.refl (w.heap.size + 1) v0).setCell (Nat.le_refl _) _).setCell (Nat.le_refl _) _
        have HX1 := Lib.hid hX1
        have HL1 := Lib.hid hL1
        clear hX1 hL1 c4 c5 f4 f5
        generalize hW : ((v0.setCell ⟨w.heap.size + 1, 4, none⟩ (.int .u8 2)).setCell ⟨w.heap.size + 1, 5, none⟩ (.int .u8 (41 : Nat))) = v1 at *
        clear hW
        have HM1 := Lib.hid (HM.out.below (HL1.out.mono (by omega)))
        have HR1 := Lib.hid (HR.out.below HL1.out (by omega))
        have HB1 := Lib.hid (HL.out.trans (HL1.out.mono (by omega)))
        have hml : (b.map (Value.int .u8)).length = Nat.min 41 42 := by rw [List.length_map, HLN.out]; exact (Nat.min_eq_left (by omega)).symm
        have HML := Lib.hid hml
        have hfit : 6 + (b.map (Value.int .u8)).length ≤ ((startV false true b.length).map (Value.int .u8)).length := by rw [List.length_map, List.length_map, HLN.out]; (try simp [startV]) <;> omega
        have HFIT := Lib.hid hfit
        clear hml hfit HM HR HL HL1
        go_wp2_with (refine wpList_copy_splice rfl (.tmp 52) (.tmp 53) 44 44 rfl 5 Try.underlying44 Try.size5 (some ⟨w.heap.size + 1, 6, none⟩) (some ad) 42 42 41 cap rfl rfl (w.heap.size + 1) 6 ((startV false true b.length).map (Value.int .u8)) 26 HX1.out (b.map (Value.int .u8)) HML.out (fun _ => ⟨rfl, ad, rfl, HM1.out.src (by omega)⟩) HFIT.out (ints_oneCell _ _) (w.heap.size + 1) v1 (Below.refl _ _) (Nat.le_refl _) ?_)
        intro v2 hh hl2
        have hX2 : Blk v2 (w.heap.size + 1) 26 (splice ((startV false true b.length).map (Value.int .u8)) 6 (b.map (Value.int .u8))).toArray := hh.out
        have hX3 : Blk (v2.setCell ⟨w.heap.size + 1, 47, none⟩ (.int .u8 90)) (w.heap.size + 1) 26 (bArr (rawV false true b)) := by
          have := hX2.set_ 47 (.int .u8 90)
          rwa [startV_splice HB41.out] at this
        have hc47 : ∃ u, v2.cell? ⟨w.heap.size + 1, 47, none⟩ = some u := by
          refine ⟨_, (hX2.cell 47).trans (Array.getElem?_eq_getElem (by simp only [List.size_toArray]; rw [length_splice _ _ _ HFIT.out]; simp [startV]))⟩
        obtain ⟨u47, c47⟩ := hc47
        have f47 := hX2.frozen 47
        have HX3 := Lib.hid hX3
        have HR3 := Lib.hid ((HR1.out.below hl2 (by omega)).far (p := ⟨w.heap.size + 1, 47, none⟩) (by simp) (.int .u8 90))
        have HB3 := Lib.hid ((HB1.out.trans (hl2.mono (by omega))).setCell (p := ⟨w.heap.size + 1, 47, none⟩) (by simp) (.int .u8 90))
        have HRL := Lib.hid (rawV_len (first := false) (last := true) HB41.out)
        have HRB := Lib.hid (rawV_bytes (first := false) (last := true) HB41.out HBY.out)
        clear hh hl2 hX2 hX3 HX1 HR1 HB1 HML HFIT HM1
        go_wp2_with (refine step_load 26 _ (w.heap.size + 1) 0 (bArr (rawV false true b)) rfl rfl rfl HX3.out.all _ Try.underlying26 rfl 48 Try.size26 (bArr_size HRL.out) ?_)
        refine (jsum_any n (rawV false true b) h0 h1 HRL.out HRB.out _).mono ?_
        rintro e v4 ⟨rfl, hb4⟩
        rw [rawV_mid HB41.out]
        have HX4 := Lib.hid (HX3.out.below hb4 HX3.out.lt)
        have HR4 := Lib.hid (HR3.out.below hb4 HR3.out.lt)
        have HB4 := Lib.hid (HB3.out.trans (hb4.mono HB3.out.size))
        clear hb4 HX3 HR3 HB3 c47 f47
        generalize hs : hi4 (sumV n (bodyV false true b)) = s4 at *
        have HS4 := Lib.hid hs
        have HSL := Lib.hid (show s4.length = 4 by rw [← hs]; rfl)
        clear hs
        have hZ : Blk (v4.alloc (.cells (bArr [0, 0, 0, 0]) 82)) v4.heap.size 82 (bArr [0, 0, 0, 0]) := Blk.new v4 82 _
        have hP : Blk ((v4.alloc (.cells (bArr [0, 0, 0, 0]) 82)).setCells v4.heap.size 0 (bArr s4).toList) v4.heap.size 82 (bArr s4) := hZ.overwrite (by simp [bArr, HSL.out])
        have hBP : Below v4.heap.size v4 ((v4.alloc (.cells (bArr [0, 0, 0, 0]) 82)).setCells v4.heap.size 0 (bArr s4).toList) := ((Below.refl _ _).alloc (Nat.le_refl _) _).trans ((Off.refl v4.heap.size v4.heap.size _).setCells (.inl rfl) _ _ |>.below (Nat.le_refl _) (Nat.le_refl _) (by simp))
        have HZ := Lib.hid hZ
        have HP := Lib.hid hP
        have HX5 := Lib.hid (HX4.out.below hBP HX4.out.lt)
        have HR5 := Lib.hid (HR4.out.below hBP HR4.out.lt)
        have HB5 := Lib.hid (HB4.out.trans (hBP.mono HB4.out.size))
        have hg4 : w.heap.size + 1 < v4.heap.size := HX4.out.lt
        clear hZ hP hBP HX4 HR4 HB4
        generalize hW : (v4.alloc (.cells (bArr [0, 0, 0, 0]) 82)).setCells v4.heap.size 0 (bArr s4).toList = v5 at *
        have HW := Lib.hid hW
        clear hW
        go_wp2_with (first | (with_reducible refine step_alloc 82 (bArr [0, 0, 0, 0]) Try.zero82 rfl rfl ?_) | (refine step_storeW 82 _ _ v4.heap.size 0 (bArr s4) rfl rfl rfl rfl 4 (HZ.out.allThere rfl) Try.size82 (by simp [bArr, HSL.out]) (bArr_one _) HW.out ?_))
        refine wp_region_still_tail 2 (by kernel_rfl) (by kernel_rfl) ?_
        simp only [List.take_succ_cons, List.take_zero, List.drop_succ_cons, List.drop_zero]
        repeat still_step
        refine wpStill_nil ?_
        change wpList _ _ _ _ _ v5.drew
        have HX6 := Lib.hid HX5.out.drew
        have HP6 := Lib.hid HP.out.drew
        have HRL2 := Lib.hid (show 0 + (s4.map (Value.int .u8)).length ≤ ((rawV false true b).map (Value.int .u8)).length by rw [List.length_map, List.length_map, HSL.out, HRL.out]; omega)
        go_wp2_with (refine wpList_copy_splice rfl (.tmp 59) (.tmp 60) 44 44 rfl 5 Try.underlying44 Try.size5 (some ⟨w.heap.size + 1, 0, none⟩) (some ⟨v4.heap.size, 0, none⟩) 48 48 4 4 rfl rfl (w.heap.size + 1) 0 ((rawV false true b).map (Value.int .u8)) 26 HX6.out (s4.map (Value.int .u8)) (by rw [List.length_map, HSL.out]; rfl) (fun _ => ⟨rfl, _, rfl, arr_src HP6.out⟩) HRL2.out (ints_oneCell _ _) (w.heap.size + 1) v5.drew (Below.refl _ _) (Nat.le_refl _) ?_)
        intro v6 hh hl6
        have hX7 : Blk v6 (w.heap.size + 1) 26 (bArr (pageV n false true b)) := by
          have h7 : Blk v6 (w.heap.size + 1) 26 (splice ((rawV false true b).map (Value.int .u8)) 0 (s4.map (Value.int .u8))).toArray := hh.out
          rw [← HS4.out, raw_page HB41.out] at h7
          exact h7
        have HX7 := Lib.hid hX7
        have HR7 := Lib.hid (HR5.out.drew.below hl6 (by omega))
        have HB7 := Lib.hid (HB5.out.drew.trans (hl6.mono (by omega)))
        have HPL := Lib.hid (pageV_len (n := n) (first := false) (last := true) HB41.out)
        clear hX7 hh hl6 HX6 HP6 HX5 HR5 HB5
        have hR8 : Blk (v6.setCells w.heap.size 0 (bArr (pageV n false true b)).toList) w.heap.size 26 (bArr (pageV n false true b)) := HR7.out.overwrite (by rw [bArr_size HPL.out, zArr_size])
        have hB8 : Below w.heap.size w (v6.setCells w.heap.size 0 (bArr (pageV n false true b)).toList) := HB7.out.trans ((Off.refl w.heap.size w.heap.size v6).setCells (.inl rfl) _ _ |>.below (Nat.le_refl _) (Nat.le_refl _) HB7.out.size)
        have HR8 := Lib.hid hR8
        have HB8 := Lib.hid hB8
        clear hR8 hB8
        generalize hW : v6.setCells w.heap.size 0 (bArr (pageV n false true b)).toList = v8 at *
        have HW8 := Lib.hid hW
        clear hW
        go_wp2_with (first | (refine step_load 26 _ (w.heap.size + 1) 0 (bArr (pageV n false true b)) rfl rfl rfl HX7.out.all _ Try.underlying26 rfl 48 Try.size26 (bArr_size HPL.out) ?_) | (refine step_storeW 26 _ _ w.heap.size 0 (bArr (pageV n false true b)) rfl rfl rfl rfl 48 (HR7.out.allThere zArr_size) Try.size26 (bArr_size HPL.out) (bArr_one _) HW8.out ?_))
        exact bodyPost_ret (v := .tuple #[.agg (bArr (pageV n false true b)), .int .i64 0]) (ret_agg2 rfl _ _ _ _ _ _ _ rfl rfl HR8.out Try.underlying26 rfl 48 Try.size26 (bArr_size HPL.out)) rfl ⟨rfl, HB8.out⟩
    · cases last
      · go_upto_region 9 with (fail)
        have hX1 : Blk ((v0.setCell ⟨w.heap.size + 1, 4, none⟩ (.int .u8 1)).setCell ⟨w.heap.size + 1, 5, none⟩ (.int .u8 (41 : Nat))) (w.heap.size + 1) 26 (bArr (startV true false b.length)) := by
          have := ((HX.out.set_ 4 (.int .u8 1)).set_ 5 (.int .u8 (41 : Nat)))
          rw [zb_arr, bArr_set, bArr_set] at this
          rw [HLN.out]
          exact this
        have hL1 : Below (w.heap.size + 1) v0 ((v0.setCell ⟨w.heap.size + 1, 4, none⟩ (.int .u8 1)).setCell ⟨w.heap.size + 1, 5, none⟩ (.int .u8 (41 : Nat))) := ((Below.refl (w.heap.size + 1) v0).setCell (Nat.le_refl _) _).setCell (Nat.le_refl _) _
        have HX1 := Lib.hid hX1
        have HL1 := Lib.hid hL1
        clear hX1 hL1 c4 c5 f4 f5
        generalize hW : ((v0.setCell ⟨w.heap.size + 1, 4, none⟩ (.int .u8 1)).setCell ⟨w.heap.size + 1, 5, none⟩ (.int .u8 (41 : Nat))) = v1 at *
        clear hW
        have HM1 := Lib.hid (HM.out.below (HL1.out.mono (by omega)))
        have HR1 := Lib.hid (HR.out.below HL1.out (by omega))
        have HB1 := Lib.hid (HL.out.trans (HL1.out.mono (by omega)))
        have hml : (b.map (Value.int .u8)).length = Nat.min 41 42 := by rw [List.length_map, HLN.out]; exact (Nat.min_eq_left (by omega)).symm
        have HML := Lib.hid hml
        have hfit : 6 + (b.map (Value.int .u8)).length ≤ ((startV true false b.length).map (Value.int .u8)).length := by rw [List.length_map, List.length_map, HLN.out]; (try simp [startV]) <;> omega
        have HFIT := Lib.hid hfit
        clear hml hfit HM HR HL HL1
        go_wp2_with (refine wpList_copy_splice rfl (.tmp 52) (.tmp 53) 44 44 rfl 5 Try.underlying44 Try.size5 (some ⟨w.heap.size + 1, 6, none⟩) (some ad) 42 42 41 cap rfl rfl (w.heap.size + 1) 6 ((startV true false b.length).map (Value.int .u8)) 26 HX1.out (b.map (Value.int .u8)) HML.out (fun _ => ⟨rfl, ad, rfl, HM1.out.src (by omega)⟩) HFIT.out (ints_oneCell _ _) (w.heap.size + 1) v1 (Below.refl _ _) (Nat.le_refl _) ?_)
        intro v2 hh hl2
        have hX2 : Blk v2 (w.heap.size + 1) 26 (splice ((startV true false b.length).map (Value.int .u8)) 6 (b.map (Value.int .u8))).toArray := hh.out
        have hX3 : Blk (v2.setCell ⟨w.heap.size + 1, 47, none⟩ (.int .u8 90)) (w.heap.size + 1) 26 (bArr (rawV true false b)) := by
          have := hX2.set_ 47 (.int .u8 90)
          rwa [startV_splice HB41.out] at this
        have hc47 : ∃ u, v2.cell? ⟨w.heap.size + 1, 47, none⟩ = some u := by
          refine ⟨_, (hX2.cell 47).trans (Array.getElem?_eq_getElem (by simp only [List.size_toArray]; rw [length_splice _ _ _ HFIT.out]; simp [startV]))⟩
        obtain ⟨u47, c47⟩ := hc47
        have f47 := hX2.frozen 47
        have HX3 := Lib.hid hX3
        have HR3 := Lib.hid ((HR1.out.below hl2 (by omega)).far (p := ⟨w.heap.size + 1, 47, none⟩) (by simp) (.int .u8 90))
        have HB3 := Lib.hid ((HB1.out.trans (hl2.mono (by omega))).setCell (p := ⟨w.heap.size + 1, 47, none⟩) (by simp) (.int .u8 90))
        have HRL := Lib.hid (rawV_len (first := true) (last := false) HB41.out)
        have HRB := Lib.hid (rawV_bytes (first := true) (last := false) HB41.out HBY.out)
        clear hh hl2 hX2 hX3 HX1 HR1 HB1 HML HFIT HM1
        go_wp2_with (refine step_load 26 _ (w.heap.size + 1) 0 (bArr (rawV true false b)) rfl rfl rfl HX3.out.all _ Try.underlying26 rfl 48 Try.size26 (bArr_size HRL.out) ?_)
        refine (jsum_any n (rawV true false b) h0 h1 HRL.out HRB.out _).mono ?_
        rintro e v4 ⟨rfl, hb4⟩
        rw [rawV_mid HB41.out]
        have HX4 := Lib.hid (HX3.out.below hb4 HX3.out.lt)
        have HR4 := Lib.hid (HR3.out.below hb4 HR3.out.lt)
        have HB4 := Lib.hid (HB3.out.trans (hb4.mono HB3.out.size))
        clear hb4 HX3 HR3 HB3 c47 f47
        generalize hs : hi4 (sumV n (bodyV true false b)) = s4 at *
        have HS4 := Lib.hid hs
        have HSL := Lib.hid (show s4.length = 4 by rw [← hs]; rfl)
        clear hs
        have hZ : Blk (v4.alloc (.cells (bArr [0, 0, 0, 0]) 82)) v4.heap.size 82 (bArr [0, 0, 0, 0]) := Blk.new v4 82 _
        have hP : Blk ((v4.alloc (.cells (bArr [0, 0, 0, 0]) 82)).setCells v4.heap.size 0 (bArr s4).toList) v4.heap.size 82 (bArr s4) := hZ.overwrite (by simp [bArr, HSL.out])
        have hBP : Below v4.heap.size v4 ((v4.alloc (.cells (bArr [0, 0, 0, 0]) 82)).setCells v4.heap.size 0 (bArr s4).toList) := ((Below.refl _ _).alloc (Nat.le_refl _) _).trans ((Off.refl v4.heap.size v4.heap.size _).setCells (.inl rfl) _ _ |>.below (Nat.le_refl _) (Nat.le_refl _) (by simp))
        have HZ := Lib.hid hZ
        have HP := Lib.hid hP
        have HX5 := Lib.hid (HX4.out.below hBP HX4.out.lt)
        have HR5 := Lib.hid (HR4.out.below hBP HR4.out.lt)
        have HB5 := Lib.hid (HB4.out.trans (hBP.mono HB4.out.size))
        have hg4 : w.heap.size + 1 < v4.heap.size := HX4.out.lt
        clear hZ hP hBP HX4 HR4 HB4
        generalize hW : (v4.alloc (.cells (bArr [0, 0, 0, 0]) 82)).setCells v4.heap.size 0 (bArr s4).toList = v5 at *
        have HW := Lib.hid hW
        clear hW
        go_wp2_with (first | (with_reducible refine step_alloc 82 (bArr [0, 0, 0, 0]) Try.zero82 rfl rfl ?_) | (refine step_storeW 82 _ _ v4.heap.size 0 (bArr s4) rfl rfl rfl rfl 4 (HZ.out.allThere rfl) Try.size82 (by simp [bArr, HSL.out]) (bArr_one _) HW.out ?_))
        refine wp_region_still_tail 2 (by kernel_rfl) (by kernel_rfl) ?_
        simp only [List.take_succ_cons, List.take_zero, List.drop_succ_cons, List.drop_zero]
        repeat still_step
        refine wpStill_nil ?_
        change wpList _ _ _ _ _ v5.drew
        have HX6 := Lib.hid HX5.out.drew
        have HP6 := Lib.hid HP.out.drew
        have HRL2 := Lib.hid (show 0 + (s4.map (Value.int .u8)).length ≤ ((rawV true false b).map (Value.int .u8)).length by rw [List.length_map, List.length_map, HSL.out, HRL.out]; omega)
        go_wp2_with (refine wpList_copy_splice rfl (.tmp 59) (.tmp 60) 44 44 rfl 5 Try.underlying44 Try.size5 (some ⟨w.heap.size + 1, 0, none⟩) (some ⟨v4.heap.size, 0, none⟩) 48 48 4 4 rfl rfl (w.heap.size + 1) 0 ((rawV true false b).map (Value.int .u8)) 26 HX6.out (s4.map (Value.int .u8)) (by rw [List.length_map, HSL.out]; rfl) (fun _ => ⟨rfl, _, rfl, arr_src HP6.out⟩) HRL2.out (ints_oneCell _ _) (w.heap.size + 1) v5.drew (Below.refl _ _) (Nat.le_refl _) ?_)
        intro v6 hh hl6
        have hX7 : Blk v6 (w.heap.size + 1) 26 (bArr (pageV n true false b)) := by
          have h7 : Blk v6 (w.heap.size + 1) 26 (splice ((rawV true false b).map (Value.int .u8)) 0 (s4.map (Value.int .u8))).toArray := hh.out
          rw [← HS4.out, raw_page HB41.out] at h7
          exact h7
        have HX7 := Lib.hid hX7
        have HR7 := Lib.hid (HR5.out.drew.below hl6 (by omega))
        have HB7 := Lib.hid (HB5.out.drew.trans (hl6.mono (by omega)))
        have HPL := Lib.hid (pageV_len (n := n) (first := true) (last := false) HB41.out)
        clear hX7 hh hl6 HX6 HP6 HX5 HR5 HB5
        have hR8 : Blk (v6.setCells w.heap.size 0 (bArr (pageV n true false b)).toList) w.heap.size 26 (bArr (pageV n true false b)) := HR7.out.overwrite (by rw [bArr_size HPL.out, zArr_size])
        have hB8 : Below w.heap.size w (v6.setCells w.heap.size 0 (bArr (pageV n true false b)).toList) := HB7.out.trans ((Off.refl w.heap.size w.heap.size v6).setCells (.inl rfl) _ _ |>.below (Nat.le_refl _) (Nat.le_refl _) HB7.out.size)
        have HR8 := Lib.hid hR8
        have HB8 := Lib.hid hB8
        clear hR8 hB8
        generalize hW : v6.setCells w.heap.size 0 (bArr (pageV n true false b)).toList = v8 at *
        have HW8 := Lib.hid hW
        clear hW
        go_wp2_with (first | (refine step_load 26 _ (w.heap.size + 1) 0 (bArr (pageV n true false b)) rfl rfl rfl HX7.out.all _ Try.underlying26 rfl 48 Try.size26 (bArr_size HPL.out) ?_) | (refine step_storeW 26 _ _ w.heap.size 0 (bArr (pageV n true false b)) rfl rfl rfl rfl 48 (HR7.out.allThere zArr_size) Try.size26 (bArr_size HPL.out) (bArr_one _) HW8.out ?_))
        exact bodyPost_ret (v := .tuple #[.agg (bArr (pageV n true false b)), .int .i64 0]) (ret_agg2 rfl _ _ _ _ _ _ _ rfl rfl HR8.out Try.underlying26 rfl 48 Try.size26 (bArr_size HPL.out)) rfl ⟨rfl, HB8.out⟩
      · go_upto_region 9 with (fail)
        have hX1 : Blk (((v0.setCell ⟨w.heap.size + 1, 4, none⟩ (.int .u8 1)).setCell ⟨w.heap.size + 1, 4, none⟩ (.int .u8 3)).setCell ⟨w.heap.size + 1, 5, none⟩ (.int .u8 (41 : Nat))) (w.heap.size + 1) 26 (bArr (startV true true b.length)) := by
          have := (((HX.out.set_ 4 (.int .u8 1)).set_ 4 (.int .u8 3)).set_ 5 (.int .u8 (41 : Nat)))
          rw [zb_arr, bArr_set, bArr_set, bArr_set] at this
          rw [HLN.out]
          exact this
        have hL1 : Below (w.heap.size + 1) v0 (((v0.setCell ⟨w.heap.size + 1, 4, none⟩ (.int .u8 1)).setCell ⟨w.heap.size + 1, 4, none⟩ (.int .u8 3)).setCell ⟨w.heap.size + 1, 5, none⟩ (.int .u8 (41 : Nat))) := (((Below.refl (w.heap.size + 1) v0).setCell (Nat.le_refl _) _).setCell (Nat.le_refl _) _).setCell (Nat.le_refl _) _
        have HX1 := Lib.hid hX1
        have HL1 := Lib.hid hL1
        clear hX1 hL1 c4 c5 f4 f5
        generalize hW : (((v0.setCell ⟨w.heap.size + 1, 4, none⟩ (.int .u8 1)).setCell ⟨w.heap.size + 1, 4, none⟩ (.int .u8 3)).setCell ⟨w.heap.size + 1, 5, none⟩ (.int .u8 (41 : Nat))) = v1 at *
        clear hW
        have HM1 := Lib.hid (HM.out.below (HL1.out.mono (by omega)))
        have HR1 := Lib.hid (HR.out.below HL1.out (by omega))
        have HB1 := Lib.hid (HL.out.trans (HL1.out.mono (by omega)))
        have hml : (b.map (Value.int .u8)).length = Nat.min 41 42 := by rw [List.length_map, HLN.out]; exact (Nat.min_eq_left (by omega)).symm
        have HML := Lib.hid hml
        have hfit : 6 + (b.map (Value.int .u8)).length ≤ ((startV true true b.length).map (Value.int .u8)).length := by rw [List.length_map, List.length_map, HLN.out]; (try simp [startV]) <;> omega
        have HFIT := Lib.hid hfit
        clear hml hfit HM HR HL HL1
        go_wp2_with (refine wpList_copy_splice rfl (.tmp 52) (.tmp 53) 44 44 rfl 5 Try.underlying44 Try.size5 (some ⟨w.heap.size + 1, 6, none⟩) (some ad) 42 42 41 cap rfl rfl (w.heap.size + 1) 6 ((startV true true b.length).map (Value.int .u8)) 26 HX1.out (b.map (Value.int .u8)) HML.out (fun _ => ⟨rfl, ad, rfl, HM1.out.src (by omega)⟩) HFIT.out (ints_oneCell _ _) (w.heap.size + 1) v1 (Below.refl _ _) (Nat.le_refl _) ?_)
        intro v2 hh hl2
        have hX2 : Blk v2 (w.heap.size + 1) 26 (splice ((startV true true b.length).map (Value.int .u8)) 6 (b.map (Value.int .u8))).toArray := hh.out
        have hX3 : Blk (v2.setCell ⟨w.heap.size + 1, 47, none⟩ (.int .u8 90)) (w.heap.size + 1) 26 (bArr (rawV true true b)) := by
          have := hX2.set_ 47 (.int .u8 90)
          rwa [startV_splice HB41.out] at this
        have hc47 : ∃ u, v2.cell? ⟨w.heap.size + 1, 47, none⟩ = some u := by
          refine ⟨_, (hX2.cell 47).trans (Array.getElem?_eq_getElem (by simp only [List.size_toArray]; rw [length_splice _ _ _ HFIT.out]; simp [startV]))⟩
        obtain ⟨u47, c47⟩ := hc47
        have f47 := hX2.frozen 47
        have HX3 := Lib.hid hX3
        have HR3 := Lib.hid ((HR1.out.below hl2 (by omega)).far (p := ⟨w.heap.size + 1, 47, none⟩) (by simp) (.int .u8 90))
        have HB3 := Lib.hid ((HB1.out.trans (hl2.mono (by omega))).setCell (p := ⟨w.heap.size + 1, 47, none⟩) (by simp) (.int .u8 90))
        have HRL := Lib.hid (rawV_len (first := true) (last := true) HB41.out)
        have HRB := Lib.hid (rawV_bytes (first := true) (last := true) HB41.out HBY.out)
        clear hh hl2 hX2 hX3 HX1 HR1 HB1 HML HFIT HM1
        go_wp2_with (refine step_load 26 _ (w.heap.size + 1) 0 (bArr (rawV true true b)) rfl rfl rfl HX3.out.all _ Try.underlying26 rfl 48 Try.size26 (bArr_size HRL.out) ?_)
        refine (jsum_any n (rawV true true b) h0 h1 HRL.out HRB.out _).mono ?_
        rintro e v4 ⟨rfl, hb4⟩
        rw [rawV_mid HB41.out]
        have HX4 := Lib.hid (HX3.out.below hb4 HX3.out.lt)
        have HR4 := Lib.hid (HR3.out.below hb4 HR3.out.lt)
        have HB4 := Lib.hid (HB3.out.trans (hb4.mono HB3.out.size))
        clear hb4 HX3 HR3 HB3 c47 f47
        generalize hs : hi4 (sumV n (bodyV true true b)) = s4 at *
        have HS4 := Lib.hid hs
        have HSL := Lib.hid (show s4.length = 4 by rw [← hs]; rfl)
        clear hs
        have hZ : Blk (v4.alloc (.cells (bArr [0, 0, 0, 0]) 82)) v4.heap.size 82 (bArr [0, 0, 0, 0]) := Blk.new v4 82 _
        have hP : Blk ((v4.alloc (.cells (bArr [0, 0, 0, 0]) 82)).setCells v4.heap.size 0 (bArr s4).toList) v4.heap.size 82 (bArr s4) := hZ.overwrite (by simp [bArr, HSL.out])
        have hBP : Below v4.heap.size v4 ((v4.alloc (.cells (bArr [0, 0, 0, 0]) 82)).setCells v4.heap.size 0 (bArr s4).toList) := ((Below.refl _ _).alloc (Nat.le_refl _) _).trans ((Off.refl v4.heap.size v4.heap.size _).setCells (.inl rfl) _ _ |>.below (Nat.le_refl _) (Nat.le_refl _) (by simp))
        have HZ := Lib.hid hZ
        have HP := Lib.hid hP
        have HX5 := Lib.hid (HX4.out.below hBP HX4.out.lt)
        have HR5 := Lib.hid (HR4.out.below hBP HR4.out.lt)
        have HB5 := Lib.hid (HB4.out.trans (hBP.mono HB4.out.size))
        have hg4 : w.heap.size + 1 < v4.heap.size := HX4.out.lt
        clear hZ hP hBP HX4 HR4 HB4
        generalize hW : (v4.alloc (.cells (bArr [0, 0, 0, 0]) 82)).setCells v4.heap.size 0 (bArr s4).toList = v5 at *
        have HW := Lib.hid hW
        clear hW
        go_wp2_with (first | (with_reducible refine step_alloc 82 (bArr [0, 0, 0, 0]) Try.zero82 rfl rfl ?_) | (refine step_storeW 82 _ _ v4.heap.size 0 (bArr s4) rfl rfl rfl rfl 4 (HZ.out.allThere rfl) Try.size82 (by simp [bArr, HSL.out]) (bArr_one _) HW.out ?_))
        refine wp_region_still_tail 2 (by kernel_rfl) (by kernel_rfl) ?_
        simp only [List.take_succ_cons, List.take_zero, List.drop_succ_cons, List.drop_zero]
        repeat still_step
        refine wpStill_nil ?_
        change wpList _ _ _ _ _ v5.drew
        have HX6 := Lib.hid HX5.out.drew
        have HP6 := Lib.hid HP.out.drew
        have HRL2 := Lib.hid (show 0 + (s4.map (Value.int .u8)).length ≤ ((rawV true true b).map (Value.int .u8)).length by rw [List.length_map, List.length_map, HSL.out, HRL.out]; omega)
        go_wp2_with (refine wpList_copy_splice rfl (.tmp 59) (.tmp 60) 44 44 rfl 5 Try.underlying44 Try.size5 (some ⟨w.heap.size + 1, 0, none⟩) (some ⟨v4.heap.size, 0, none⟩) 48 48 4 4 rfl rfl (w.heap.size + 1) 0 ((rawV true true b).map (Value.int .u8)) 26 HX6.out (s4.map (Value.int .u8)) (by rw [List.length_map, HSL.out]; rfl) (fun _ => ⟨rfl, _, rfl, arr_src HP6.out⟩) HRL2.out (ints_oneCell _ _) (w.heap.size + 1) v5.drew (Below.refl _ _) (Nat.le_refl _) ?_)
        intro v6 hh hl6
        have hX7 : Blk v6 (w.heap.size + 1) 26 (bArr (pageV n true true b)) := by
          have h7 : Blk v6 (w.heap.size + 1) 26 (splice ((rawV true true b).map (Value.int .u8)) 0 (s4.map (Value.int .u8))).toArray := hh.out
          rw [← HS4.out, raw_page HB41.out] at h7
          exact h7
        have HX7 := Lib.hid hX7
        have HR7 := Lib.hid (HR5.out.drew.below hl6 (by omega))
        have HB7 := Lib.hid (HB5.out.drew.trans (hl6.mono (by omega)))
        have HPL := Lib.hid (pageV_len (n := n) (first := true) (last := true) HB41.out)
        clear hX7 hh hl6 HX6 HP6 HX5 HR5 HB5
        have hR8 : Blk (v6.setCells w.heap.size 0 (bArr (pageV n true true b)).toList) w.heap.size 26 (bArr (pageV n true true b)) := HR7.out.overwrite (by rw [bArr_size HPL.out, zArr_size])
        have hB8 : Below w.heap.size w (v6.setCells w.heap.size 0 (bArr (pageV n true true b)).toList) := HB7.out.trans ((Off.refl w.heap.size w.heap.size v6).setCells (.inl rfl) _ _ |>.below (Nat.le_refl _) (Nat.le_refl _) HB7.out.size)
        have HR8 := Lib.hid hR8
        have HB8 := Lib.hid hB8
        clear hR8 hB8
        generalize hW : v6.setCells w.heap.size 0 (bArr (pageV n true true b)).toList = v8 at *
        have HW8 := Lib.hid hW
        clear hW
        go_wp2_with (first | (refine step_load 26 _ (w.heap.size + 1) 0 (bArr (pageV n true true b)) rfl rfl rfl HX7.out.all _ Try.underlying26 rfl 48 Try.size26 (bArr_size HPL.out) ?_) | (refine step_storeW 26 _ _ w.heap.size 0 (bArr (pageV n true true b)) rfl rfl rfl rfl 48 (HR7.out.allThere zArr_size) Try.size26 (bArr_size HPL.out) (bArr_one _) HW8.out ?_))
        exact bodyPost_ret (v := .tuple #[.agg (bArr (pageV n true true b)), .int .i64 0]) (ret_agg2 rfl _ _ _ _ _ _ _ rfl rfl HR8.out Try.underlying26 rfl 48 Try.size26 (bArr_size HPL.out)) rfl ⟨rfl, HB8.out⟩
end Go.Proofs.Ytdjkkpefljapcaa
