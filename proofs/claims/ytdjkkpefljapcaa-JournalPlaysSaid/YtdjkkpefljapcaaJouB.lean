/- The contracts of lombardref24.sum, of slices.Clone at bytes and of lombardhelp.CopyBytes. -/
import Derived.Test.YtdjkkpefljapcaaJou
namespace Go.Proofs.Ytdjkkpefljapcaa
open Go.RowKit
set_option linter.unusedVariables false
set_option linter.unusedSimpArgs false

theorem Nums.src {w : World} {B n : Nat} {ad : Addr} {bs : List Int} (h : Nums .u8 w B (some ad) n bs) (hn : 0 < n) : ∀ j u, (bs.map (Value.int .u8))[j]? = some u → w.cell? (ad.add j) = some u := by
  obtain ⟨ad', e, _, hc⟩ := h.2 hn
  injection e with e
  subst e
  exact hc

/-- A slice of bytes of the call's own. -/
def OwnB (w : World) (base : Nat) (v : Value) (bs : List Int) : Prop := w.ownsRow base 5 1 v bs.length (bs.map (Value.int .u8))

set_option maxRecDepth 100000 in
set_option maxHeartbeats 1000000 in
theorem refsum_any (n : Int) (ad : Addr) (cap B : Nat) (mid : List Int) (h0 : 0 ≤ n) (h1 : n ≤ 20000) (w : World) (hm : Nums .u8 w B (some ad) 43 mid) (hb : isBytes mid) (hB : B ≤ w.heap.size) :
    Calls Try.prog 55 #[.int .i64 n, .slice (some ad) 43 cap] w fun e w' => e = .returned (.int .u32 (sumV n mid)) ∧ Below w.heap.size w w' := by
  obtain ⟨i0, hi, hz0, hz1, hz2⟩ := info_parts Try.info_u8
  have hh : bArr (hi4 n) = #[.int .u8 (n / 16777216), .int .u8 (n / 65536), .int .u8 (n / 256), .int .u8 (n % 256)] := by
    unfold hi4 bArr
    rw [show n / 16777216 % 256 = n / 16777216 from by omega, show n / 65536 % 256 = n / 65536 from by omega, show n / 256 % 256 = n / 256 from by omega]
    rfl
  have hBb : Blk (w.alloc (.cells #[.int .u8 (n / 16777216), .int .u8 (n / 65536), .int .u8 (n / 256), .int .u8 (n % 256)] 5)) w.heap.size 5 (bArr (hi4 n)) := by
    rw [← hh]
    exact Blk.new w 5 _
  have hL : Below w.heap.size w (w.alloc (.cells #[.int .u8 (n / 16777216), .int .u8 (n / 65536), .int .u8 (n / 256), .int .u8 (n % 256)] 5)) := (Below.refl _ _).alloc (Nat.le_refl _) _
  have hM : Nums .u8 (w.alloc (.cells #[.int .u8 (n / 16777216), .int .u8 (n / 65536), .int .u8 (n / 256), .int .u8 (n % 256)] 5)) B (some ad) 43 mid := hm.below (hL.mono hB)
  have hlen := hm.len
  have HB := Lib.hid hBb
  have HL := Lib.hid hL
  have HM := Lib.hid hM
  have HLN := Lib.hid (show (mid.map (Value.int .u8)).length = 43 * 1 by rw [List.length_map, hlen])
  have HMB := Lib.hid hb
  clear hBb hL hM hlen hh hm hb
  go_enter Try.func55, Try.ntmps55
  go_wp2_with (at_builtin; refine wpList_append_own _ rfl _ _ 44 rfl w.heap.size 5 i0 _ 1 1 Try.underlying44 hi hz0 hz1 hz2 rfl (by decide) _ _ _ rfl (own_new HB.out (by omega) (by decide) rfl) ad 43 cap (mid.map (Value.int .u8)) rfl HLN.out ?c1 ?c2 ?c3 ?c4 ?c5 ?_)
  case c1 => exact HM.out.src (by omega)
  case c2 => exact ints_oneCell _ _
  case c3 => unfold maxLen; omega
  case c4 => omega
  case c5 => simp
  intro v' w1 hown' hgrow _
  have e1 : (bArr (hi4 n)).toList ++ mid.map (Value.int .u8) = (hi4 n ++ mid).map (Value.int .u8) := by simp [bArr]
  rw [e1] at hown'
  obtain ⟨A', c', rfl, hr⟩ := own_form hown'
  have hnum : Nums .u8 w1 w1.heap.size A' (4 + 43) (hi4 n ++ mid) := hr
  have HN := Lib.hid hnum
  have HL1 := Lib.hid (HL.out.grown hgrow (by simp) (fun k hk => by injection hk with hk; have hk' : w.heap.size = k := hk; omega))
  have HBB := Lib.hid (isBytes_append (hi4_bytes n) HMB.out)
  clear hr hnum hown' hgrow e1
  go_wp2_with fail
  refine (refSum_any _ (4 + 43) _ _ _ _ HN.out HBB.out (by unfold maxLen; omega)).mono ?_
  rintro e w2 ⟨rfl, rfl⟩
  rw [show adMore 1 (hi4 n ++ mid) = sumV n mid from rfl]
  go_wp2_with fail
  go_ret
  exact ⟨rfl, HL1.out⟩

set_option maxRecDepth 100000 in
set_option maxHeartbeats 1000000 in
theorem copyB_any (ad : Addr) (m cap B : Nat) (bs : List Int) (w : World) (hm : Nums .u8 w B (some ad) m bs) (h1 : 1 ≤ m) (h2 : m ≤ 100000) :
    Calls Try.prog 42 #[.slice (some ad) m cap] w fun e w' => ∃ v, e = .returned v ∧ OwnB w' w.heap.size v bs ∧ Below w.heap.size w w' := by
  obtain ⟨i0, hi, hz0, hz1, hz2⟩ := info_parts Try.info_u8
  have hlen := hm.len
  have HLN := Lib.hid (show (bs.map (Value.int .u8)).length = m * 1 by rw [List.length_map, hlen, Nat.mul_one])
  have HLE := Lib.hid hlen
  have HM := Lib.hid hm
  clear hm hlen
  go_enter Try.func42, Try.ntmps42
  go_wp2_with (at_builtin; refine wpList_append_own _ rfl _ _ 44 rfl w.heap.size 5 i0 _ 1 1 Try.underlying44 hi hz0 hz1 hz2 rfl (by decide) _ _ _ rfl (World.ownsRow_nil _ _ _ _) ad m cap (bs.map (Value.int .u8)) rfl HLN.out ?c1 ?c2 ?c3 ?c4 ?c5 ?_)
  case c1 => exact HM.out.src (by omega)
  case c2 => exact ints_oneCell _ _
  case c3 => unfold maxLen; omega
  case c4 => omega
  case c5 => exact Nat.le_refl _
  intro v' w1 hown' hgrow _
  have how : OwnB w1 w.heap.size v' bs := by unfold OwnB; rw [HLE.out]; exact hown'
  have HO := Lib.hid how
  have HL := Lib.hid ((Below.refl w.heap.size w).grown hgrow (Nat.le_refl _) (fun k hk => by cases hk))
  clear hown' hgrow how
  go_wp2_with fail
  go_ret
  exact ⟨_, rfl, HO.out, HL.out⟩

set_option maxRecDepth 100000 in
set_option maxHeartbeats 1000000 in
theorem clone_any (ad : Addr) (m cap B : Nat) (bs : List Int) (w : World) (hm : Nums .u8 w B (some ad) m bs) (hB : B ≤ w.heap.size) (h1 : 1 ≤ m) (h2 : m ≤ 100000) :
    Calls Try.prog 56 #[.slice (some ad) m cap] w fun e w' => ∃ v, e = .returned v ∧ OwnB w' w.heap.size v bs ∧ Below w.heap.size w w' := by
  obtain ⟨i0, hi, hz0, hz1, hz2⟩ := info_parts Try.info_u8
  have hlen := hm.len
  have HLN := Lib.hid (show (bs.map (Value.int .u8)).length = m * 1 by rw [List.length_map, hlen, Nat.mul_one])
  have HLE := Lib.hid hlen
  have hL : Below w.heap.size w (w.alloc (.cells #[] 5)) := (Below.refl _ _).alloc (Nat.le_refl _) _
  have HL0 := Lib.hid hL
  have HM := Lib.hid (hm.below (hL.mono hB))
  have HB := Lib.hid (Blk.new w 5 #[])
  clear hm hlen hL
  have kn := fun (w : World) (a : Option Addr) (l c : Nat) => Lib.run_eql_slice_nil (P := Try.prog) w 44 5 a l c 0 0 Try.underlying44
  go_enter Try.func56, Try.ntmps56
  go_wp2_with (at_builtin; refine wpList_append_own _ rfl _ _ 44 rfl w.heap.size 5 i0 _ 1 1 Try.underlying44 hi hz0 hz1 hz2 rfl (by decide) _ _ _ rfl (own_new HB.out (by omega) (by decide) rfl) ad m cap (bs.map (Value.int .u8)) rfl HLN.out ?c1 ?c2 ?c3 ?c4 ?c5 ?_)
  case c1 => exact HM.out.src (by omega)
  case c2 => exact ints_oneCell _ _
  case c3 => unfold maxLen; omega
  case c4 => omega
  case c5 => simp
  intro v' w1 hown' hgrow _
  have how : OwnB w1 w.heap.size v' bs := by unfold OwnB; rw [HLE.out]; exact hown'
  have HO := Lib.hid how
  have HL := Lib.hid (HL0.out.grown hgrow (by simp) (fun k hk => by injection hk with hk; have hk' : w.heap.size = k := hk; omega))
  clear hown' hgrow how
  go_wp2_with fail
  go_ret
  exact ⟨_, rfl, HO.out, HL.out⟩
end Go.Proofs.Ytdjkkpefljapcaa
