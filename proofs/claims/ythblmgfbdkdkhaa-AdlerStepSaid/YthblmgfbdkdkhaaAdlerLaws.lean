/- The walks of the laws on adler: each returns true, and turns nothing that was there. -/
import Derived.Test.YthblmgfbdkdkhaaProg
import Derived.Test.YthblmgfbdkdkhaaLib
import Derived.Test.YthblmgfbdkdkhaaAdler
import Derived.Test.YthblmgfbdkdkhaaOwnByte
import Derived.WalkSpells
import Derived.OpenShut
import Derived.Lib.SlBytesConst
namespace Go.Proofs.Ythblmgfbdkdkhaa
open Go.RowKit

theorem IsRow.bytes {w : World} {a : Option Addr} {len cap : Nat} {zs : List Int} (h : IsRow .u8 w a len cap zs) : isBytes (zs.take len) := by
  intro b hb
  have := h.wf_ b hb
  have := bounds_u8 this
  omega

def wiki : List Int := [87, 105, 107, 105, 112, 101, 100, 105, 97]

set_option maxRecDepth 100000 in
theorem awake05 (w : World) : Calls Try.prog 10 #[] w fun e w' => e = .returned (.bool true) ∧ Below w.heap.size w w' := by
  have h1 : adMore 1 wiki = 300286872 := by decide
  have h2 : adMore 1 [] = 1 := by decide
  go_enter Try.func10, Try.ntmps10
  have kc := fun (w : World) (C : Array Value) (n c : Nat) => Lib.run_convert_bytes_const (P := Try.prog) w 22 5 C n c Try.underlying22 Try.underlying5
  have hb : isBytes wiki := by unfold isBytes wiki; decide
  have hm : (9 : Nat) ≤ maxLen := by unfold maxLen; omega
  go_wp2_with fail
  refine (sum_any _ 9 _ _ wiki _ (Nums.new _ _ _ wiki) hb hm).mono ?_
  rintro e w1 ⟨rfl, rfl⟩
  go_wp2_with fail
  refine (sum_any none 0 0 0 [] _ (Nums.nil _ _) (by intro b h; cases h) (Nat.zero_le _)).mono ?_
  rintro e w1 ⟨rfl, rfl⟩
  go_wp2_with fail
  go_ret
  exact ⟨rfl, (Below.refl _ _).alloc (Nat.le_refl _) _⟩

theorem own_nums' {w : World} {g : Nat} {t : TypeId} {bs : List Int} {f : Int} {n : Nat} (hn : bs.length = n) (h : Blk w g t (ownCells bs f)) : Nums .u8 w (g + 1) (some ⟨g, 0, none⟩) n bs := by
  subst hn
  exact own_nums h

set_option maxRecDepth 100000 in
theorem adlerSums_walk (a0 : Option Addr) (len0 cap0 : Nat) (z0 : List Int) (a1 : Int) (w : World) (w0 : IsRow .u8 w a0 len0 cap0 z0) (w1 : (Lit.int .u32 a1).wf = true) :
    Calls Try.prog 3 #[.slice a0 len0 cap0, .int .u32 a1] w fun e w' => e = .returned (.bool true) ∧ Below w.heap.size w w' := by
  obtain ⟨s0, s1⟩ := bounds_u32 w1
  by_cases h : 8000 < len0
  · go_enter Try.func3, Try.ntmps3
    go_wp2_with fail
    refine (awake05 _).mono ?_
    rintro e wa ⟨rfl, hb⟩
    go_wp2_with fail
    go_ret
    exact ⟨rfl, hb⟩
  · have hnum := w0.nums
    have hbs := w0.bytes
    have hnil := w0.nil_
    have hlen := w0.len_
    have hl := hnum.len
    have HL := Lib.hid hl
    clear hl
    generalize z0.take len0 = bs at *
    clear w0
    go_enter Try.func3, Try.ntmps3
    go_wp2_with fail
    refine (ownByte_any a0 len0 cap0 w.heap.size bs 71 _ hnum hnil (Nat.le_refl _) (by omega)).mono ?_
    rintro e wa ⟨rfl, hblk, hbl⟩
    go_wp2_with fail
    refine (awake05 _).mono ?_
    rintro e wb ⟨rfl, hbl2⟩
    have hblk2 := hblk.below hbl2 hblk.lt
    have hbl3 : Below w.heap.size w wb := hbl.trans (hbl2.mono hbl.size)
    have hnum2 := hnum.below hbl3
    clear hblk hbl hbl2
    go_wp2_with fail
    refine (sum_any _ len0 _ _ bs _ (own_nums' HL.out hblk2) hbs hlen).mono ?_
    rintro e w' ⟨rfl, rfl⟩
    go_wp2_with fail
    refine (refSum_any _ len0 _ _ bs _ hnum2 hbs hlen).mono ?_
    rintro e w' ⟨rfl, rfl⟩
    go_wp2_with fail
    refine (more_any a1 s0 (by omega) _ len0 _ _ bs _ (own_nums' HL.out hblk2) hbs hlen).mono ?_
    rintro e w' ⟨rfl, rfl⟩
    go_wp2_with fail
    refine (refMore_any a1 s0 (by omega) _ len0 _ _ bs _ hnum2 hbs hlen).mono ?_
    rintro e w' ⟨rfl, rfl⟩
    go_wp2_with fail
    refine (keptByte_any _ _ len0 _ _ bs 71 _ hblk2 hnum2 (by omega)).mono ?_
    rintro e w' ⟨rfl, hq⟩
    go_wp2_with fail
    go_ret
    exact ⟨rfl, hbl3.trans (hq.below _)⟩

theorem pack_lo (y z : Int) (h0 : 0 ≤ z) (h1 : z < 65521) : (y * 65536 + z) % 65536 % 65521 = z := by omega
theorem pack_hi (y z : Int) (h0 : 0 ≤ z) (h1 : z < 65521) (h2 : 0 ≤ y) (h3 : y < 65521) : (y * 65536 + z) / 65536 % 65521 = y := by omega

set_option maxRecDepth 100000 in
theorem adlerStep_walk (a0 a1 a2 : Int) (w : World) (w0 : (Lit.int .u16 a0).wf = true) (w1 : (Lit.int .u16 a1).wf = true) (w2 : (Lit.int .u8 a2).wf = true) :
    Calls Try.prog 6 #[.int .u16 a0, .int .u16 a1, .int .u8 a2] w fun e w' => e = .returned (.bool true) ∧ Below w.heap.size w w' := by
  obtain ⟨p0, p1⟩ := bounds_u16 w0
  obtain ⟨q0, q1⟩ := bounds_u16 w1
  obtain ⟨c0, c1⟩ := bounds_u8 w2
  obtain ⟨x, hx⟩ : ∃ x, a0 % 65521 = x := ⟨_, rfl⟩
  obtain ⟨y, hy⟩ : ∃ y, a1 % 65521 = y := ⟨_, rfl⟩
  obtain ⟨z, hz⟩ : ∃ z, (x + a2) % 65521 = z := ⟨_, rfl⟩
  obtain ⟨v, hv⟩ : ∃ v, (y + z) % 65521 = v := ⟨_, rfl⟩
  have hx0 : 0 ≤ x ∧ x < 65521 := by omega
  have hy0 : 0 ≤ y ∧ y < 65521 := by omega
  have hz0 : 0 ≤ z ∧ z < 65521 := by omega
  have hv0 : 0 ≤ v ∧ v < 65521 := by omega
  have g1 : bits .or .u32 (y * 65536) x = y * 65536 + x := or_join _ _ (by omega) (by omega) (by omega) (by omega)
  have g2 : bits .or .u32 (v * 65536) z = v * 65536 + z := or_join _ _ (by omega) (by omega) (by omega) (by omega)
  have g5 : bits .or .u32 (y * 65536) z = y * 65536 + z := or_join _ _ (by omega) (by omega) (by omega) (by omega)
  have g3 : adMore (y * 65536 + x) [a2] = v * 65536 + z := by
    have e1 : (y * 65536 + x) % 65536 % 65521 = x := pack_lo y x hx0.1 hx0.2
    have e2 : (y * 65536 + x) / 65536 % 65521 = y := pack_hi y x hx0.1 hx0.2 hy0.1 hy0.2
    unfold adMore adPack adFold adUnpack adStep
    simp only [List.foldl, e1, e2, hz, hv]
  have g4 : adMore (y * 65536 + z) [] = y * 65536 + z := by
    have e1 : (y * 65536 + z) % 65536 % 65521 = z := pack_lo y z hz0.1 hz0.2
    have e2 : (y * 65536 + z) / 65536 % 65521 = y := pack_hi y z hz0.1 hz0.2 hy0.1 hy0.2
    unfold adMore adPack adFold adUnpack
    simp only [List.foldl, e1, e2]
  obtain ⟨hx1, hx2⟩ := hx0
  obtain ⟨hy1, hy2⟩ := hy0
  obtain ⟨hz1, hz2⟩ := hz0
  obtain ⟨hv1, hv2⟩ := hv0
  have hby : isBytes [a2] := by
    intro b hb
    simp at hb
    omega
  have hm : (1 : Nat) ≤ maxLen := by unfold maxLen; omega
  go_enter Try.func6, Try.ntmps6
  go_wp2_with fail
  refine (more_any _ (by omega) (by omega) _ 1 _ _ [a2] _ (Nums.new _ _ _ [a2]) hby hm).mono ?_
  rintro e w' ⟨rfl, rfl⟩
  go_wp2_with fail
  refine (awake05 _).mono ?_
  rintro e wb ⟨rfl, hbl⟩
  go_wp2_with fail
  refine (more_any _ (by omega) (by omega) none 0 0 0 [] _ (Nums.nil _ _) (by intro b h; cases h) (Nat.zero_le _)).mono ?_
  rintro e w' ⟨rfl, rfl⟩
  go_wp2_with fail
  go_ret
  exact ⟨rfl, ((Below.refl _ _).alloc (Nat.le_refl _) _).trans (hbl.mono (by simp))⟩

theorem blk_nums {w : World} {g : Nat} {t : TypeId} {bs : List Int} {n : Nat} {k : IntKind} (hn : bs.length = n) (h : Blk w g t (bs.map (Value.int k)).toArray) : Nums k w (g + 1) (some ⟨g, 0, none⟩) n bs := by
  subst hn
  refine ⟨by simp, fun _ => ⟨_, rfl, by simp, fun j u hu => ?_⟩⟩
  rw [Addr.add_lit]
  simp only [Nat.zero_add]
  rw [h.cell j, List.getElem?_toArray]
  exact hu

set_option maxRecDepth 100000 in
theorem adlerLong_walk (a0 a1 : Int) (w : World) (w0 : (Lit.int .i64 a0).wf = true) (w1 : (Lit.int .u8 a1).wf = true) :
    Calls Try.prog 4 #[.int .i64 a0, .int .u8 a1] w fun e w' => e = .returned (.bool true) ∧ Below w.heap.size w w' := by
  obtain ⟨p0, p1⟩ := bounds_i64 w0
  obtain ⟨c0, c1⟩ := bounds_u8 w1
  obtain ⟨i0, hi, hz0, hz1, hz2⟩ := info_parts Try.info_u8
  obtain ⟨u, n, hu, hu0, hu1, hun, hn⟩ := u64_rest a0 9000 (by omega)
  go_enter Try.func4, Try.ntmps4
  go_wp2_with (at_make; refine wpList_make_full _ rfl _ _ 22 rfl w.heap.size 5 i0 (.int .u8 0) 1 Try.underlying22 hi hz0 hz1 _ _ _ _ n rfl rfl (by omega) (by omega) ?b1 ?b2 ?b3 ?_)
  case b1 => rw [hz2]; omega
  case b2 => unfold maxLen; omega
  case b3 => exact Nat.le_refl _
  intro w1 hown hg
  clear hu hun hu0 hu1 hz0 hz1 hz2 hi
  go_wp2_with fail
  have hb1 : Below w.heap.size w w1 := (Below.refl _ _).grown hg (Nat.le_refl _) (fun _ h => by cases h)
  obtain ⟨cur, hblk, hcs, htk⟩ := own_blk hown
  have h0 : ∃ bs : List Int, cur = (bs.map (Value.int .u8)).toArray ∧ isBytes bs ∧ bs.length = n := by
    refine ⟨List.replicate n 0, ?_, ?_, by simp⟩
    · rw [List.take_of_length_le (by simp; omega), made_one] at htk
      rw [← Array.toArray_toList (xs := cur), htk, List.map_replicate]
    · intro b hb
      have := List.eq_of_mem_replicate hb
      omega
  have H0 := Lib.hid h0
  clear h0 hown hg hcs htk
  go_loopw [14] (fun i wr => ∃ (k : Nat) (bs : List Int), k ≤ n ∧ i = .int .i64 k ∧ Blk wr w.heap.size 5 (bs.map (Value.int .u8)).toArray ∧ isBytes bs ∧ bs.length = n ∧ Below w.heap.size w wr) (fun i _ => n - (intOf i).toNat)
  case atStart =>
    obtain ⟨bs, rfl, h1, h2⟩ := H0.out
    exact ⟨0, bs, by omega, rfl, hblk, h1, h2, hb1⟩
  case round =>
    clear H0 hblk hb1
    obtain ⟨k, bs, hk, rfl, hblk, hby, hl, hbel⟩ := hrel
    have HL := Lib.hid hl
    have HBY := Lib.hid hby
    have HB := Lib.hid hblk
    clear hby
    by_cases hlt : k < n
    · have hc : wr.cell? ⟨w.heap.size, k, none⟩ = some (.int .u8 (bs.getD k 0)) := by
        rw [hblk.cell k, List.getElem?_toArray, List.getElem?_map, List.getElem?_eq_getElem (by omega)]
        simp [List.getD, List.getElem?_eq_getElem (show k < bs.length by omega)]
      have hf := hblk.frozen k
      clear hblk hl
      generalize bs.getD k 0 = old at hc
      go_wp2
      go_roundw
      case rel =>
        refine ⟨k + 1, bs.set k a1, by omega, by go_num, ?_, ?_, by rw [List.length_set]; exact HL.out, hbel.setCell (Nat.le_refl _) _⟩
        · have := HB.out.set_ k (.int .u8 a1)
          simpa [List.map_set] using this
        · intro b hb
          rcases List.mem_or_eq_of_mem_set hb with h | h
          · exact HBY.out b h
          · omega
      case measure => simp [intOf]; omega
    · clear hblk hl
      go_wp2_with fail
      refine (awake05 _).mono ?_
      rintro e wb ⟨rfl, hbl2⟩
      have hblk2 := HB.out.below hbl2 HB.out.lt
      have hbl3 : Below w.heap.size w wb := hbel.trans (hbl2.mono hbel.size)
      have hm : n ≤ maxLen := by unfold maxLen; omega
      go_wp2_with fail
      refine (sum_any _ n _ _ bs _ (blk_nums HL.out hblk2) HBY.out hm).mono ?_
      rintro e w' ⟨rfl, rfl⟩
      go_wp2_with fail
      refine (refSum_any _ n _ _ bs _ (blk_nums HL.out hblk2) HBY.out hm).mono ?_
      rintro e w' ⟨rfl, rfl⟩
      go_wp2_with fail
      go_ret
      exact ⟨rfl, hbl3⟩

theorem adMore_append (s : Int) (a b : List Int) : adMore (adMore s a) b = adMore s (a ++ b) := by
  have h := adGood_fold a _ (adGood_unpack (s := s))
  have e : adUnpack (adMore s a) = adFold (adUnpack s) a := by
    unfold adMore
    generalize adFold (adUnpack s) a = p at *
    obtain ⟨p1, p2⟩ := p
    unfold adGood at h
    unfold adUnpack adPack
    dsimp only at *
    congr 1 <;> omega
  unfold adMore at *
  rw [e]
  unfold adFold
  rw [List.foldl_append]
theorem isBytes.drop {bs : List Int} (h : isBytes bs) (k : Nat) : isBytes (bs.drop k) := fun b hb => h b (List.mem_of_mem_drop hb)
theorem isBytes.take {bs : List Int} (h : isBytes bs) (k : Nat) : isBytes (bs.take k) := fun b hb => h b (List.mem_of_mem_take hb)

set_option maxRecDepth 100000 in
theorem adlerParts_walk (a0 : Option Addr) (len0 cap0 : Nat) (z0 : List Int) (a1 : Option Addr) (len1 cap1 : Nat) (z1 : List Int) (w : World) (w0 : IsRow .u8 w a0 len0 cap0 z0) (w1 : IsRow .i64 w a1 len1 cap1 z1) :
    Calls Try.prog 5 #[.slice a0 len0 cap0, .slice a1 len1 cap1] w fun e w' => e = .returned (.bool true) ∧ Below w.heap.size w w' := by
  have hnum := w0.nums
  have hbs := w0.bytes
  have hcap := w0.cap_
  have hnum1 := w1.nums
  have hl := hnum.len
  have HL := Lib.hid hl
  clear hl
  generalize z0.take len0 = bs at *
  generalize z1.take len1 = cs at *
  clear w0 w1
  by_cases h : 3000 < len0
  · go_enter Try.func5, Try.ntmps5
    go_wp2_with fail
    refine (awake05 _).mono ?_
    rintro e wa ⟨rfl, hb⟩
    go_wp2_with fail
    go_ret
    exact ⟨rfl, hb⟩
  by_cases h' : 20 < len1
  · go_enter Try.func5, Try.ntmps5
    go_wp2_with fail
    refine (awake05 _).mono ?_
    rintro e wa ⟨rfl, hb⟩
    go_wp2_with fail
    go_ret
    exact ⟨rfl, hb⟩
  have hd1 : decide (3000 < (len0 : Int)) = false := by simp; omega
  have hd2 : decide (20 < (len1 : Int)) = false := by simp; omega
  have hs1 : ∀ w, (sizeOf (Try.prog.elem 22)).run Try.prog w = .ok 1 w := fun w => by kernel_rfl
  have HS1 := Lib.hid hs1
  clear hs1
  go_enter Try.func5, Try.ntmps5
  go_wp2_with fail
  refine (sum_any none 0 0 0 [] _ (Nums.nil _ _) (by intro b h; cases h) (Nat.zero_le _)).mono ?_
  rintro e w' ⟨rfl, rfl⟩
  go_wp2_with fail
  go_loop [5, 6, 7] (fun s a i => ∃ k at_ : Nat, k ≤ len1 ∧ at_ ≤ len0 ∧ i = .int .i64 k ∧ a = .int .i64 at_ ∧ s = .int .u32 (adMore 1 (bs.take at_))) (fun _ _ i => len1 - (intOf i).toNat)
  case atStart => exact ⟨0, 0, by omega, by omega, rfl, rfl, rfl⟩
  case round =>
    obtain ⟨k, at_, hk, hat, rfl, rfl, rfl⟩ := hrel
    obtain ⟨r0, r1⟩ := adMore_range 1 (bs.take at_)
    have hm : len0 - at_ ≤ maxLen := by unfold maxLen; omega
    by_cases hlt : k < len1
    · obtain ⟨ad, rfl, _, hc⟩ := hnum1.at_ hlt
      generalize cs.getD k 0 = x at *
      obtain ⟨u, n, hu, hu0, hu1, hun, hn⟩ := u64_rest x ((len0 : Int) - at_ + 1) (by omega)
      have hnle : n ≤ len0 - at_ := by omega
      have hap := adMore_append 1 (bs.take at_) ((bs.drop at_).take n)
      rw [← List.take_add] at hap
      have HA := Lib.hid hap
      clear hap
      obtain ⟨A', hA', hrun⟩ := slice_lh (P := Try.prog) 22 Try.underlying22 a0 len0 cap0 at_ n (by omega) 1 HS1.out
      have hcut := (hnum.cut hat hcap).take hnle
      simp only [Nat.mul_one] at hA'
      rw [← hA'] at hcut
      have hby := (hbs.drop at_).take n
      clear hA'
      go_wp2_with fail
      refine (more_any _ r0 r1 _ n _ _ _ _ hcut hby (by omega)).mono ?_
      rintro e w' ⟨rfl, rfl⟩
      rw [HA.out]
      go_wp2_with fail
      go_round
      case rel => exact ⟨k + 1, at_ + n, by omega, by omega, by go_num, by go_num, rfl⟩
      case measure => simp [intOf]; omega
    · obtain ⟨A', hA', hrun⟩ := slice_l (P := Try.prog) 22 Try.underlying22 a0 len0 cap0 at_ hat 1 HS1.out
      have hcut := hnum.cut hat hcap
      simp only [Nat.mul_one] at hA'
      rw [← hA'] at hcut
      clear hA'
      have hap := adMore_append 1 (bs.take at_) (bs.drop at_)
      rw [List.take_append_drop] at hap
      have HA := Lib.hid hap
      clear hap
      go_wp2_with fail
      refine (awake05 _).mono ?_
      rintro e wb ⟨rfl, hbl⟩
      go_wp2_with fail
      refine (more_any _ r0 r1 _ _ _ _ _ _ (hcut.below hbl) (hbs.drop at_) hm).mono ?_
      rintro e w' ⟨rfl, rfl⟩
      rw [HA.out]
      go_wp2_with fail
      refine (sum_any _ len0 _ _ bs _ (hnum.below hbl) hbs (by unfold maxLen; omega)).mono ?_
      rintro e w' ⟨rfl, rfl⟩
      go_wp2_with fail
      go_ret
      exact ⟨rfl, hbl⟩
end Go.Proofs.Ythblmgfbdkdkhaa
