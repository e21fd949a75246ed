/- The contracts of adler.More, adler.Sum and of the document's two, lombardref05.More and lombardref05.Sum: each returns the sum of the bytes, and leaves the world as it is. -/
import Derived.Test.YtdjkkpefljapcaaProg
import Derived.Test.YtdjkkpefljapcaaLib
import Derived.WalkSpells
namespace Go.Proofs.Ytdjkkpefljapcaa
open Go.RowKit

/-! ### the plain sum -/
def adStep (p : Int × Int) (b : Int) : Int × Int := ((p.1 + b) % 65521, (p.2 + (p.1 + b) % 65521) % 65521)
def adFold (p : Int × Int) (bs : List Int) : Int × Int := bs.foldl adStep p
def adPack (p : Int × Int) : Int := p.2 * 65536 + p.1
def adUnpack (s : Int) : Int × Int := (s % 65536 % 65521, s / 65536 % 65521)
/-- The sum s, and bytes behind it. -/
def adMore (s : Int) (bs : List Int) : Int := adPack (adFold (adUnpack s) bs)
def isBytes (bs : List Int) : Prop := ∀ b ∈ bs, 0 ≤ b ∧ b < 256
def adGood (p : Int × Int) : Prop := 0 ≤ p.1 ∧ p.1 < 65521 ∧ 0 ≤ p.2 ∧ p.2 < 65521

theorem adGood_unpack {s : Int} : adGood (adUnpack s) := by unfold adGood adUnpack; dsimp only; omega
theorem adGood_step {p : Int × Int} (b : Int) : adGood (adStep p b) := by unfold adGood adStep; dsimp only; omega
theorem adGood_fold (bs : List Int) : ∀ p, adGood p → adGood (adFold p bs) := by
  induction bs with
  | nil => exact fun p h => h
  | cons b bs ih => exact fun p h => ih _ (adGood_step b)
theorem adFold_take (p : Int × Int) (bs : List Int) (k : Nat) (hk : k < bs.length) : adFold p (bs.take (k + 1)) = adStep (adFold p (bs.take k)) (bs.getD k 0) := by
  unfold adFold
  rw [List.take_succ_eq_append_getElem hk, List.foldl_append]
  simp [List.getD, List.getElem?_eq_getElem hk]
theorem isBytes.getD {bs : List Int} (h : isBytes bs) (k : Nat) : 0 ≤ bs.getD k 0 ∧ bs.getD k 0 < 256 := by
  by_cases hk : k < bs.length
  · simp only [List.getD, List.getElem?_eq_getElem hk, Option.getD_some]
    exact h _ (List.getElem_mem hk)
  · have e : bs[k]? = none := List.getElem?_eq_none (Nat.le_of_not_lt hk)
    simp [List.getD, e]
theorem adPack_range {p : Int × Int} (h : adGood p) : 0 ≤ adPack p ∧ adPack p < 4294967296 := by unfold adGood at h; unfold adPack; omega
theorem adMore_range (s : Int) (bs : List Int) : 0 ≤ adMore s bs ∧ adMore s bs < 4294967296 := adPack_range (adGood_fold _ _ adGood_unpack)

theorem and_low (s : Int) (h0 : 0 ≤ s) (h1 : s < 4294967296) : bits .and .u32 s 65535 = s % 65536 := by
  rw [u32_and s 65535 h0 h1 (by omega) (by omega)]
  have : (65535 : Int).toNat = 65535 := rfl
  rw [this, nat_mask16]
  omega
theorem or_join (h l : Int) (h0 : 0 ≤ h) (h1 : h < 65536) (l0 : 0 ≤ l) (l1 : l < 65536) : bits .or .u32 (h * 65536) l = h * 65536 + l := by
  rw [u32_or _ _ (by omega) (by omega) (by omega) (by omega)]
  rw [nat_join 16 _ _ (by omega) (by omega)]
  omega
theorem or_join64 (h l : Int) (h0 : 0 ≤ h) (h1 : h < 65536) (l0 : 0 ≤ l) (l1 : l < 65536) : bits .or .u64 (h * 65536) l = h * 65536 + l := by
  rw [u64_or _ _ (by omega) (by omega) (by omega) (by omega)]
  rw [nat_join 16 _ _ (by omega) (by omega)]
  omega

/-! ### the walks -/
set_option maxRecDepth 100000 in
theorem more_any (sum : Int) (h0 : 0 ≤ sum) (h1 : sum < 4294967296) (A : Option Addr) (n cap B : Nat) (bs : List Int) (w : World) (hr : Nums .u8 w B A n bs) (hb : isBytes bs) (hn : n ≤ maxLen) :
    Calls Try.prog 68 #[.int .u32 sum, .slice A n cap] w fun e w' => e = .returned (.int .u32 (adMore sum bs)) ∧ w = w' := by
  unfold maxLen at hn
  have hand := and_low sum h0 h1
  go_enter Try.func68, Try.ntmps68
  go_wp2
  refine wp_scope_one 0 (fun a' w' => w' = w ∧ ∃ (k : Nat) (u2 u3 u4 u8 u9 u10 u11 u12 u13 u14 u15 u16 u17 u18 u19 u20 u21 u22 u23 u24 u25 u26 u27 u28 u29 u30 u31 u32 u33 u34 u35 : Value), k ≤ n ∧ a' = { tmps := #[.int .u32 sum, .slice A n cap, u2, u3, u4, .int .u32 (adFold (adUnpack sum) (bs.take k)).1, .int .u32 (adFold (adUnpack sum) (bs.take k)).2, .int .i64 k, u8, u9, u10, u11, u12, u13, u14, u15, u16, u17, u18, u19, u20, u21, u22, u23, u24, u25, u26, u27, u28, u29, u30, u31, u32, u33, u34, u35], defers := [] }) (fun a' _ => n - (intOf (a'.tmps.getD 7 undef)).toNat) rfl ?_ ?_
  · rintro a' w' ⟨rfl, k, u2, u3, u4, u8, u9, u10, u11, u12, u13, u14, u15, u16, u17, u18, u19, u20, u21, u22, u23, u24, u25, u26, u27, u28, u29, u30, u31, u32, u33, u34, u35, hk, rfl⟩
    clear hand
    have hlen := hr.len
    obtain ⟨g1, g2, g3, g4⟩ := adGood_fold (bs.take k) _ (adGood_unpack (s := sum))
    have hgl : adMore sum bs = adPack (adFold (adUnpack sum) bs) := rfl
    have HG := Lib.hid hgl
    clear hgl
    by_cases hlt : k < n
    · obtain ⟨ad, rfl, _, hc⟩ := hr.at_ hlt
      obtain ⟨b0, b1⟩ := hb.getD k
      have hst := adFold_take (adUnpack sum) bs k (by omega)
      have HS := Lib.hid hst
      clear hst
      generalize bs.getD k 0 = b at *
      generalize adFold (adUnpack sum) (bs.take k) = p at *
      go_wp2
      go_step3
      refine ⟨rfl, ⟨rfl, k + 1, ?_⟩, ?_⟩
      · (repeat apply Exists.intro)
        refine ⟨by omega, ?_⟩
        rw [HS.out]
        rfl
      · simp [intOf]
        omega
    · have hk' : bs.take k = bs := List.take_of_length_le (by omega)
      have HK := Lib.hid hk'
      clear hk'
      have hg : adGood (adFold (adUnpack sum) bs) := adGood_fold _ _ adGood_unpack
      have hj := or_join (adFold (adUnpack sum) bs).2 (adFold (adUnpack sum) bs).1 hg.2.2.1 (by have := hg.2.2.2; omega) hg.1 (by have := hg.2.1; omega)
      have HJ := Lib.hid hj
      clear hj hg
      rw [HK.out] at g1 g2 g3 g4 ⊢
      generalize adFold (adUnpack sum) bs = p at *
      go_wp2
      simp only [Exit.jump]
      go_ret
      refine ⟨?_, rfl⟩
      rw [HG.out]
      unfold adPack
      rw [← HJ.out]
      rfl
  · intro hp
    go_wp2
    go_step3
    rename_i hk
    refine hk _ _ (hp _ _ ⟨rfl, 0, ?_⟩)
    (repeat apply Exists.intro)
    refine ⟨by omega, ?_⟩
    rfl

set_option maxRecDepth 100000 in
theorem refMore_any (sum : Int) (h0 : 0 ≤ sum) (h1 : sum < 4294967296) (A : Option Addr) (n cap B : Nat) (bs : List Int) (w : World) (hr : Nums .u8 w B A n bs) (hb : isBytes bs) (hn : n ≤ maxLen) :
    Calls Try.prog 69 #[.int .u32 sum, .slice A n cap] w fun e w' => e = .returned (.int .u32 (adMore sum bs)) ∧ w = w' := by
  unfold maxLen at hn
  have hand := and_low sum h0 h1
  go_enter Try.func69, Try.ntmps69
  go_wp2
  go_loop [5, 6, 7] (fun l h i => ∃ k : Nat, k ≤ n ∧ i = .int .i64 k ∧ l = .int .u64 (adFold (adUnpack sum) (bs.take k)).1 ∧ h = .int .u64 (adFold (adUnpack sum) (bs.take k)).2) (fun _ _ i => n - (intOf i).toNat)
  case atStart => exact ⟨0, by omega, rfl, rfl, rfl⟩
  case round =>
    obtain ⟨k, hk, rfl, rfl, rfl⟩ := hrel
    clear hand
    have hlen := hr.len
    obtain ⟨g1, g2, g3, g4⟩ := adGood_fold (bs.take k) _ (adGood_unpack (s := sum))
    have hgl : adMore sum bs = adPack (adFold (adUnpack sum) bs) := rfl
    have HG := Lib.hid hgl
    clear hgl
    by_cases hlt : k < n
    · obtain ⟨ad, rfl, _, hc⟩ := hr.at_ hlt
      obtain ⟨b0, b1⟩ := hb.getD k
      have hst := adFold_take (adUnpack sum) bs k (by omega)
      have HS := Lib.hid hst
      clear hst
      generalize bs.getD k 0 = b at *
      generalize adFold (adUnpack sum) (bs.take k) = p at *
      go_wp2
      go_round
      case rel => exact ⟨k + 1, by omega, by go_num, by rw [HS.out]; rfl, by rw [HS.out]; rfl⟩
      case measure => simp [intOf]; omega
    · have hk' : bs.take k = bs := List.take_of_length_le (by omega)
      have HK := Lib.hid hk'
      clear hk'
      have hg : adGood (adFold (adUnpack sum) bs) := adGood_fold _ _ adGood_unpack
      have hj := or_join64 (adFold (adUnpack sum) bs).2 (adFold (adUnpack sum) bs).1 hg.2.2.1 (by have := hg.2.2.2; omega) hg.1 (by have := hg.2.1; omega)
      have hp := adPack_range hg
      have HJ := Lib.hid hj
      have HP := Lib.hid hp
      clear hj hg hp
      rw [HK.out] at g1 g2 g3 g4 ⊢
      generalize adFold (adUnpack sum) bs = p at *
      go_wp2
      go_ret
      refine ⟨?_, rfl⟩
      rw [HG.out]
      show Ending.returned (.int .u32 (bits BinOp.or IntKind.u64 (p.2 * 65536) p.1 % 4294967296)) = _
      rw [HJ.out]
      have h2 := HP.out
      unfold adPack at h2 ⊢
      rw [Int.emod_eq_of_lt h2.1 h2.2]

set_option maxRecDepth 100000 in
theorem sum_any (A : Option Addr) (n cap B : Nat) (bs : List Int) (w : World) (hr : Nums .u8 w B A n bs) (hb : isBytes bs) (hn : n ≤ maxLen) :
    Calls Try.prog 63 #[.slice A n cap] w fun e w' => e = .returned (.int .u32 (adMore 1 bs)) ∧ w = w' := by
  go_enter Try.func63, Try.ntmps63
  go_wp2_with (go_at_call 68; refine (more_any _ (by omega) (by omega) A n cap B bs _ hr hb hn).mono ?_; rintro e w' ⟨rfl, rfl⟩)
  go_ret
  exact ⟨rfl, rfl⟩

set_option maxRecDepth 100000 in
theorem refSum_any (A : Option Addr) (n cap B : Nat) (bs : List Int) (w : World) (hr : Nums .u8 w B A n bs) (hb : isBytes bs) (hn : n ≤ maxLen) :
    Calls Try.prog 64 #[.slice A n cap] w fun e w' => e = .returned (.int .u32 (adMore 1 bs)) ∧ w = w' := by
  go_enter Try.func64, Try.ntmps64
  go_wp2_with (go_at_call 69; refine (refMore_any _ (by omega) (by omega) A n cap B bs _ hr hb hn).mono ?_; rintro e w' ⟨rfl, rfl⟩)
  go_ret
  exact ⟨rfl, rfl⟩
end Go.Proofs.Ytdjkkpefljapcaa
