/- The contracts of lombardhelp.Own, Plain, Same and Kept at bytes: a copy with three places behind it; whether it is as it was. -/
import Derived.Test.YtdjkkpefljapcaaProg
import Derived.Test.YtdjkkpefljapcaaLib
import Derived.WalkSpells
import Derived.Deep.QuietTactic
import Derived.BigQuiet
namespace Go.Proofs.Ytdjkkpefljapcaa
open Go.RowKit

theorem Try.info_u8 : (Try.prog.info? 5).map (fun i => (i.zero, i.size, i.bytes)) = some (some (.int .u8 0), 1, 1) := by kernel_rfl

/-- The cells of a copy: the bytes, and the filling behind them. -/
def ownCells (bs : List Int) (f : Int) : Array Value := ((bs ++ [f, f, f]).map (Value.int .u8)).toArray

set_option maxRecDepth 100000 in
theorem ownByte_any (A : Option Addr) (n cap B : Nat) (bs : List Int) (f : Int) (w : World) (hr : Nums .u8 w B A n bs) (hA : A = none → n = 0 ∧ cap = 0) (hB : B ≤ w.heap.size) (hn : n ≤ 100000) :
    Calls Try.prog 29 #[.slice A n cap, .int .u8 f] w fun e w' => e = .returned (.slice (some ⟨w.heap.size, 0, none⟩) n (n + 3)) ∧ Blk w' w.heap.size 5 (ownCells bs f) ∧ Below w.heap.size w w' := by
  obtain ⟨i0, hi, hz0, hz1, hz2⟩ := info_parts Try.info_u8
  have hlen := hr.len
  have hl := Lib.hid hlen
  clear hlen
  go_enter Try.func29, Try.ntmps29
  go_wp2_with (at_make; refine wpList_make_own _ rfl _ _ 44 rfl w.heap.size 5 i0 (.int .u8 0) 1 Try.underlying44 hi hz0 hz1 _ _ _ (n + 3) rfl rfl (by omega) ?b1 ?b2 ?b3 ?_)
  case b1 => rw [hz2]; omega
  case b2 => unfold maxLen; omega
  case b3 => exact Nat.le_refl _
  intro w1 hown1 hg1
  go_wp2_with (at_builtin; refine wpList_append_fits_any _ rfl _ _ 44 rfl w.heap.size 5 i0 1 Try.underlying44 hi hz1 w.heap.size 0 (n + 3) [] rfl hown1 A n cap (bs.map (Value.int .u8)) rfl ?c1 ?c2 ?c3 ?c4 ?c5 ?_)
  case c1 => simp [hl.out]
  case c2 => exact hA
  case c3 => 
    intro ad had j u hu
    have h1 : Nums .u8 w1 B A n bs := Reads.grown hr hg1 hB (fun g h => by cases h)
    obtain ⟨ad', e, _, hc⟩ := h1.2 (by
      have := (List.getElem?_eq_some_iff.1 hu).1
      have := hl.out
      simp at *
      omega)
    rw [had] at e
    injection e with e
    subst e
    exact hc j u hu
  case c4 => exact ints_oneCell _ _
  case c5 => omega
  intro w2 hown2 hg2
  go_wp2
  obtain ⟨hcl, hcase⟩ := hown2
  rcases hcase with ⟨hbad, _⟩ | ⟨g, cp, cur0, hv, hgb, hh, hnc, hcm, hcs, htk⟩
  · cases hbad
  injection hv with hv1 hv2 hv3
  injection hv1 with hv1
  injection hv1 with hv1
  subst hv3
  rw [← hv1] at hh
  clear hv1 hv2 hgb hcl
  have hb1 : Below w.heap.size w w1 := (Below.refl _ _).grown hg1 (Nat.le_refl _) (fun _ h => by cases h)
  have hb2 : Below w.heap.size w w2 := hb1.grown hg2 hb1.size (fun k h => by injection h with h; omega)
  clear hown1 hg1 hg2 hb1
  have HC0 := Lib.hid hcs
  have HT0 := Lib.hid htk
  clear hcs htk
  go_loopw [7] (fun i wr => ∃ (k : Nat) (cur : Array Value), n ≤ k ∧ k ≤ n + 3 ∧ i = .int .i64 k ∧ Blk wr w.heap.size 5 cur ∧ cur.size = n + 3 ∧ cur.toList.take k = (bs ++ List.replicate (k - n) f).map (Value.int .u8) ∧ Below w.heap.size w wr) (fun i _ => n + 3 - (intOf i).toNat)
  case atStart => exact ⟨n, cur0, Nat.le_refl _, by omega, rfl, hh, by have := HC0.out; omega, by have := HT0.out; simpa using this, hb2⟩
  case round =>
    clear HC0 HT0 hh hb2
    obtain ⟨k, cur, hk1, hk2, rfl, hblk, hcs, htk, hbel⟩ := hrel
    have HS := Lib.hid hcs
    have HT := Lib.hid htk
    have HB := Lib.hid hblk
    clear hcs htk
    by_cases hlt : k < n + 3
    · have hks : k < cur.size := by have := HS.out; omega
      have hc : wr.cell? ⟨w.heap.size, k, none⟩ = some (cur[k]) := by rw [hblk.cell k]; exact Array.getElem?_eq_getElem hks
      have hf := hblk.frozen k
      clear hblk
      generalize cur[k] = old at hc
      go_wp2
      go_roundw
      case rel => 
        refine ⟨k + 1, cur.setIfInBounds k (.int .u8 f), by omega, by omega, by go_num, HB.out.set_ k _, by simp [HS.out], ?_, hbel.setCell (Nat.le_refl _) _⟩
        have h1 := HT.out
        rw [Array.toList_setIfInBounds, List.take_succ_eq_append_getElem (by simpa using hks)]
        rw [List.take_set_of_le (Nat.le_refl _), h1]
        rw [show k + 1 - n = (k - n) + 1 from by omega, List.replicate_succ']
        simp
      case measure => simp [intOf]; omega
    · have hke : k = n + 3 := by omega
      have HK := Lib.hid hke
      clear hke hblk
      go_wp2
      go_ret
      refine ⟨rfl, ?_, hbel⟩
      have h1 := HT.out
      have h2 := HS.out
      have h3 := HK.out
      subst h3
      rw [List.take_of_length_le (by simp; omega)] at h1
      have h4 : cur = ownCells bs f := by
        unfold ownCells
        rw [← Array.toArray_toList (xs := cur), h1]
        simp [List.replicate]
      rw [← h4]
      exact HB.out

theorem eqByte_any (x y : Int) (w : World) : Calls Try.prog 66 #[.int .u8 x, .int .u8 y] w fun e w' => e = .returned (.bool (x == y)) ∧ w' = w := by
  go_enter Try.func66, Try.ntmps66
  go_wp2
  go_ret
  exact ⟨rfl, rfl⟩

set_option maxRecDepth 100000 in
theorem sameByte_eq (A A2 : Option Addr) (n c c2 B B2 : Nat) (bs : List Int) (w : World) (hr : Nums .u8 w B A n bs) (hr2 : Nums .u8 w B2 A2 n bs) (hn : n ≤ maxLen) :
    Calls Try.prog 65 #[.slice A n c, .slice A2 n c2, .func (.func 66) #[] #[]] w fun e w' => e = .returned (.bool true) ∧ Quiet w w' := by
  unfold maxLen at hn
  go_enter Try.func65, Try.ntmps65
  go_wp2
  go_loopw [7] (fun i wr => ∃ k : Nat, k ≤ n ∧ i = .int .i64 k ∧ Quiet w wr) (fun i _ => n - (intOf i).toNat)
  case atStart => exact ⟨0, by omega, rfl, Quiet.refl _⟩
  case round =>
    obtain ⟨k, hk, rfl, hq⟩ := hrel
    by_cases hlt : k < n
    · obtain ⟨ad, rfl, _, hc⟩ := (hr.quiet hq).at_ hlt
      obtain ⟨ad2, rfl, _, hc2⟩ := (hr2.quiet hq).at_ hlt
      have hz : (bs.getD k 0 == bs.getD k 0) = true := by simp
      generalize bs.getD k 0 = b at *
      go_wp2_with fail
      go_quiet ((go_at_call 66; exact Calls.quiet_of_same (eqByte_any _ _ _)))
      go_wp2
      go_roundw
      case rel => exact ⟨k + 1, by omega, by go_num, hq.then_ _⟩
      case measure => simp [intOf]; omega
    · go_wp2
      go_ret
      exact ⟨rfl, hq⟩

set_option maxRecDepth 100000 in
theorem plainByte_eq (A A2 : Option Addr) (n c c2 B B2 : Nat) (bs : List Int) (w : World) (hr : Nums .u8 w B A n bs) (hr2 : Nums .u8 w B2 A2 n bs) (hn : n ≤ maxLen) :
    Calls Try.prog 57 #[.slice A n c, .slice A2 n c2] w fun e w' => e = .returned (.bool true) ∧ Quiet w w' := by
  go_enter Try.func57, Try.ntmps57
  go_wp2_with (go_at_call 65; refine (sameByte_eq A A2 n c c2 B B2 bs _ hr hr2 hn).mono ?_; rintro e w' ⟨rfl, hq⟩)
  go_ret
  exact ⟨rfl, ‹_›⟩

theorem ownCells_get (bs : List Int) (f : Int) (k : Nat) (h1 : bs.length ≤ k) (h2 : k < bs.length + 3) : (ownCells bs f)[k]? = some (.int .u8 f) := by
  unfold ownCells
  rw [List.getElem?_toArray, List.getElem?_map, List.getElem?_append_right h1]
  have : k - bs.length = 0 ∨ k - bs.length = 1 ∨ k - bs.length = 2 := by omega
  rcases this with h | h | h <;> simp [h]
theorem own_nums {w : World} {g : Nat} {t : TypeId} {bs : List Int} {f : Int} (h : Blk w g t (ownCells bs f)) : Nums .u8 w (g + 1) (some ⟨g, 0, none⟩) bs.length bs := by
  refine ⟨by simp, fun _ => ⟨_, rfl, by simp, fun j u hu => ?_⟩⟩
  rw [Addr.add_lit]
  simp only [Nat.zero_add]
  rw [h.cell j]
  unfold ownCells
  rw [List.getElem?_toArray, List.map_append, List.getElem?_append_left (List.getElem?_eq_some_iff.1 hu).1]
  exact hu

set_option maxRecDepth 100000 in
theorem keptByte_any (g : Nat) (A2 : Option Addr) (n c2 B2 : Nat) (bs : List Int) (f : Int) (w : World) (hb : Blk w g 5 (ownCells bs f)) (hr2 : Nums .u8 w B2 A2 n bs) (hn : n ≤ 100000) :
    Calls Try.prog 35 #[.slice (some ⟨g, 0, none⟩) n (n + 3), .slice A2 n c2, .int .u8 f] w fun e w' => e = .returned (.bool true) ∧ Quiet w w' := by
  have hl := hr2.len
  have hr := own_nums hb
  rw [hl] at hr
  have HL := Lib.hid hl
  clear hl
  go_enter Try.func35, Try.ntmps35
  go_wp2_with (go_at_call 57; refine (plainByte_eq _ A2 n _ c2 _ B2 bs _ hr hr2 (by unfold maxLen; omega)).mono ?_; rintro e w1 ⟨rfl, hq⟩)
  have hq : Quiet w w1 := ‹_›
  have hb1 := hq.blk hb
  go_loop [8] (fun i => ∃ k : Nat, n ≤ k ∧ k ≤ n + 3 ∧ i = .int .i64 k) (fun i => n + 3 - (intOf i).toNat)
  case atStart => exact ⟨n, by omega, by omega, rfl⟩
  case round =>
    obtain ⟨k, hk1, hk2, rfl⟩ := hrel
    by_cases hlt : k < n + 3
    · have hc : w1.cell? ⟨g, k, none⟩ = some (.int .u8 f) := by rw [hb1.cell k, ownCells_get bs f k (by rw [HL.out]; omega) (by rw [HL.out]; omega)]
      have hz : (f != f) = false := by simp
      go_wp2
      go_round
      case rel => exact ⟨k + 1, by omega, by omega, by go_num⟩
      case measure => simp [intOf]; omega
    · go_wp2
      go_ret
      exact ⟨rfl, hq⟩
end Go.Proofs.Ytdjkkpefljapcaa
