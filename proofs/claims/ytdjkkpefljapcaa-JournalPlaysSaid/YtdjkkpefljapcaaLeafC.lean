/- The contracts of Pad.each, and of the closures that it is given. -/
import Derived.Test.YtdjkkpefljapcaaLeafB
import Derived.OpenShut
namespace Go.Proofs.Ytdjkkpefljapcaa
open Go.RowKit
set_option linter.unusedVariables false
set_option linter.unusedSimpArgs false

set_option maxRecDepth 100000 in
theorem each_any (g h : Nat) (p : Pd) (fn : FuncId) (caps : Array Value) (Inv : Nat → Nat → World → Prop) (w : World) (hlen : p.l.length ≤ 20000) (hcf : ∀ (args : Array Value) (w : World), (callFunc fn args).run Try.prog w = .ok (.enter fn args) w)
    (hstart : Inv 0 0 w)
    (hat : ∀ n w, n ≤ p.l.length → Inv n (wetN (p.l.take n)) w → w.cell? ⟨g, 0, none⟩ = some (.slice (some ⟨h, 0, none⟩) p.l.length p.l.length) ∧ (n < p.l.length → w.cell? ⟨h, n * 49, none⟩ = some (.int .i64 (p.l.getD n Lf.zero).is)))
    (hdry : ∀ n w, n < p.l.length → (p.l.getD n Lf.zero).is ≠ 1 → Inv n (wetN (p.l.take n)) w → Inv (n + 1) (wetN (p.l.take n)) w)
    (hwet : ∀ n w, n < p.l.length → (p.l.getD n Lf.zero).is = 1 → Inv n (wetN (p.l.take n)) w → Calls Try.prog fn (#[.int .i64 (wetN (p.l.take n)), .pointer (some ⟨h, n * 49, none⟩)] ++ caps) w fun e w' => e = .returned (.tuple #[]) ∧ Inv (n + 1) (wetN (p.l.take n) + 1) w') :
    Calls Try.prog 46 #[.pointer (some ⟨g, 0, none⟩), .func (.func fn) #[] caps] w fun e w' => e = .returned (.tuple #[]) ∧ Inv p.l.length (wetN p.l) w' := by
  have HAT := Lib.hid hat
  have HDRY := Lib.hid hdry
  have HWET := Lib.hid hwet
  have HS := Lib.hid hstart
  clear hat hdry hwet hstart
  go_enter Try.func46, Try.ntmps46
  go_wp2
  refine wp_scope_one 0 (fun a' w' => ∃ n : Nat, n ≤ p.l.length ∧ Inv n (wetN (p.l.take n)) w' ∧ ∃ (u2 u3 u6 u7 u8 u9 u10 u11 u12 u13 u14 u15 u16 u17 u18 u19 u20 u21 u22 u23 u24 u25 u26 u27 u28 u29 u30 u31 u32 u33 u34 : Value), a' = { tmps := #[.pointer (some ⟨g, 0, none⟩), .func (.func fn) #[] caps, u2, u3, .int .i64 n, .int .i64 (wetN (p.l.take n)), u6, u7, u8, u9, u10, u11, u12, u13, u14, u15, u16, u17, u18, u19, u20, u21, u22, u23, u24, u25, u26, u27, u28, u29, u30, u31, u32, u33, u34], defers := [] }) (fun a' _ => p.l.length - (intOf (a'.tmps.getD 4 undef)).toNat) rfl ?_ ?_
  · rintro a' w' ⟨n, hn, hi, u2, u3, u6, u7, u8, u9, u10, u11, u12, u13, u14, u15, u16, u17, u18, u19, u20, u21, u22, u23, u24, u25, u26, u27, u28, u29, u30, u31, u32, u33, u34, rfl⟩
    obtain ⟨c0, c1⟩ := HAT.out n w' hn hi
    have HI := Lib.hid hi
    have hw1 := wetN_le (p.l.take n)
    rw [List.length_take] at hw1
    clear hi
    by_cases hlt : n < p.l.length
    · have c1' := c1 hlt
      clear c1
      by_cases hwet : (p.l.getD n Lf.zero).is = 1
      · have hnext := HWET.out n w' hlt hwet HI.out
        have hs := (doneL_wet (fun _ x => x) p.l n hlt hwet).2
        have HN := Lib.hid hnext
        have HSS := Lib.hid hs
        rw [hwet] at c1'
        clear hnext hwet hs
        generalize wetN (p.l.take n) = i at *
        go_wp2_with fail
        refine HN.out.mono ?_
        rintro e w2 ⟨rfl, hi2⟩
        have HI2 := Lib.hid hi2
        clear hi2 HN
        go_wp2_with fail
        go_step3
        refine ⟨rfl, ⟨n + 1, by omega, ?_⟩, ?_⟩
        · rw [HSS.out]
          refine ⟨HI2.out, ?_⟩
          (repeat apply Exists.intro)
          rfl
        · simp [intOf]
          omega
      · have hnext := HDRY.out n w' hlt hwet HI.out
        have hs := (doneL_dry (fun _ x => x) p.l n hlt hwet).2
        have HN := Lib.hid hnext
        have HSS := Lib.hid hs
        have hz : ((p.l.getD n Lf.zero).is == 1) = false := by simpa using hwet
        clear hnext hwet hs
        generalize (p.l.getD n Lf.zero).is = isv at *
        go_wp2_with fail
        go_step3
        refine ⟨rfl, ⟨n + 1, by omega, ?_⟩, ?_⟩
        · rw [HSS.out]
          refine ⟨HN.out, ?_⟩
          (repeat apply Exists.intro)
          rfl
        · simp [intOf]
          omega
    · have hk' : p.l.take n = p.l := List.take_of_length_le (by omega)
      have hne : n = p.l.length := by omega
      have HI2 := HI.out
      rw [hk'] at HI2
      subst hne
      have HH := Lib.hid HI2
      clear HI2 hk' HI
      go_wp2
      simp only [Exit.jump]
      go_end0
      exact ⟨rfl, HH.out⟩
  · intro hp
    go_wp2
    go_step3
    rename_i hk
    refine hk _ _ (hp _ _ ⟨0, by omega, by simpa [wetN] using HS.out, ?_⟩)
    (repeat apply Exists.intro)
    rfl
theorem enters47 (args : Array Value) (w : World) : (callFunc 47 args).run Try.prog w = .ok (.enter 47 args) w := by kernel_rfl
theorem enters48 (args : Array Value) (w : World) : (callFunc 48 args).run Try.prog w = .ok (.enter 48 args) w := by kernel_rfl
theorem enters50 (args : Array Value) (w : World) : (callFunc 50 args).run Try.prog w = .ok (.enter 50 args) w := by kernel_rfl
theorem enters52 (args : Array Value) (w : World) : (callFunc 52 args).run Try.prog w = .ok (.enter 52 args) w := by kernel_rfl

/-! ### the closures -/
set_option maxRecDepth 100000 in
theorem wetC_any (i k c : Nat) (A : Addr) (w : World) (hb : Blk w c 3 #[.int .i64 k]) (hk : k ≤ 20000) : Calls Try.prog 47 #[.int .i64 i, .pointer (some A), .pointer (some ⟨c, 0, none⟩)] w fun e w' => e = .returned (.tuple #[]) ∧ Blk w' c 3 #[.int .i64 ((k + 1 : Nat) : Int)] ∧ Off c c w w' := by
  have c0 : w.cell? ⟨c, 0, none⟩ = some (.int .i64 k) := by rw [hb.cell]; rfl
  have f0 := hb.frozen 0
  have HB := Lib.hid hb
  clear hb
  go_enter Try.func47, Try.ntmps47
  go_wp2
  go_end0
  exact ⟨rfl, HB.out.set_ 0 _, (Off.refl c c w).setCell (.inl rfl) _⟩

set_option maxRecDepth 100000 in
theorem dryC_any (i n g h : Nat) (p : Pd) (w : World) (hp : PadAt w g h p) (hn : n < p.l.length) : Calls Try.prog 48 #[.int .i64 i, .pointer (some ⟨h, n * 49, none⟩)] w fun e w' => e = .returned (.tuple #[]) ∧ PadAt w' g h (p.put n ⟨2, (p.at n).b⟩) ∧ Off g h w w' := by
  have c0 := hp.is_ hn
  have f0 := hp.fr (n * 49)
  have HB := Lib.hid hp
  clear hp
  go_enter Try.func48, Try.ntmps48
  go_wp2
  go_end0
  exact ⟨rfl, HB.out.setIs hn (by omega) (by omega), (Off.refl g h w).setCell (.inr (.inl rfl)) _⟩

set_option maxRecDepth 100000 in
theorem mendC_any (i n g h : Nat) (p : Pd) (w : World) (hp : PadAt w g h p) (hn : n < p.l.length) : Calls Try.prog 52 #[.int .i64 i, .pointer (some ⟨h, n * 49, none⟩)] w fun e w' => e = .returned (.tuple #[]) ∧ PadAt w' g h (p.put n Lf.zero) ∧ Off g h w w' := by
  have hroom := hp.room hn
  have HB := Lib.hid hp
  have HR := Lib.hid hroom
  clear hp hroom
  go_enter Try.func52, Try.ntmps52
  go_wp2_with (first
    | (refine step_build 76 #[] zLeaf rfl rfl Try.built76z ?_)
    | (refine step_store 76 _ _ h (n * 49) zLeaf rfl rfl rfl rfl 49 HR.out Try.size76 zLeaf_size zLeaf_one ?_))
  go_end0
  exact ⟨rfl, HB.out.setLeaf hn Lf.zero_ok, (Off.refl g h w).setCells (.inr (.inl rfl)) _ _⟩

theorem PadAt.wholeLeaf {w : World} {g h : Nat} {p : Pd} (hp : PadAt w g h p) {n : Nat} (hn : n < p.l.length) : w.rangeAt h (n * 49) (lArr (p.at n)).toList := hp.leaf hn

/-- The first bytes of a wet leaf stay. -/
theorem keepAt_lt {keep : List Int} {i : Nat} (h : ¬ i < keep.length) : keepAt keep i = 0 := by
  unfold keepAt
  rw [List.getD, List.getElem?_eq_none (by omega)]
  rfl

set_option maxRecDepth 100000 in
theorem dropC_any (i n g h c cap B len : Nat) (A : Option Addr) (keep : List Int) (p : Pd) (w : World) (hp : PadAt w g h p) (hn : n < p.l.length) (hi : i ≤ 20000) (hk : Nums .i64 w B A len keep) (hwf : ∀ x ∈ keep, (Lit.int .i64 x).wf = true) (hb : Blk w c 34 #[.slice A len cap]) (hl : len ≤ 1000) :
    Calls Try.prog 50 #[.int .i64 i, .pointer (some ⟨h, n * 49, none⟩), .pointer (some ⟨c, 0, none⟩)] w fun e w' => e = .returned (.tuple #[]) ∧ PadAt w' g h (p.put n (keptL (p.at n) (keepAt keep i))) ∧ Off g h w w' := by
  have c0 : w.cell? ⟨c, 0, none⟩ = some (.slice A len cap) := by rw [hb.cell]; rfl
  have hok : (p.at n).ok := hp.ok.at_ hn
  have hwhole := hp.wholeLeaf hn
  have hsz := lArr_size hok
  have HB := Lib.hid hp
  have HW := Lib.hid hwhole
  have HS := Lib.hid hsz
  have HOK := Lib.hid hok
  have hlen := hk.len
  clear hp hwhole hsz hok
  by_cases hlt : i < len
  · obtain ⟨ad, rfl, _, c1⟩ := hk.at_ hlt
    have hbd : -9223372036854775808 ≤ keep.getD i 0 ∧ keep.getD i 0 ≤ 9223372036854775807 := by
      have hm : keep.getD i 0 ∈ keep := by
        simp only [List.getD, List.getElem?_eq_getElem (show i < keep.length by omega), Option.getD_some]
        exact List.getElem_mem _
      have := bounds_i64 (hwf _ hm)
      omega
    have e : keepAt keep i = keep.getD i 0 := rfl
    have HE := Lib.hid e
    clear e hlen
    generalize keep.getD i 0 = v at *
    go_enter Try.func50, Try.ntmps50
    go_wp2_with (refine step_load 76 _ h (n * 49) (lArr (p.at n)) rfl rfl rfl HW.out _ Try.underlying76 rfl 49 Try.size76 HS.out ?_)
    refine (kept_any (p.at n) v HOK.out hbd.2 w).mono ?_
    rintro e w2 ⟨rfl, hbel⟩
    have HP2 := Lib.hid (HB.out.below hbel)
    have HR := Lib.hid (HP2.out.room hn)
    have hok2 := keptL_ok HOK.out v
    have HS2 := Lib.hid (lArr_size hok2)
    have HOK2 := Lib.hid hok2
    clear hok2
    go_wp2_with (refine step_store 76 _ _ h (n * 49) (lArr (keptL (p.at n) v)) rfl rfl rfl rfl 49 HR.out Try.size76 HS2.out (lArr_one _) ?_)
    go_end0
    rw [HE.out]
    exact ⟨rfl, HP2.out.setLeaf hn HOK2.out, (Off.of_below hbel).setCells (.inr (.inl rfl)) _ _⟩
  · have e := keepAt_lt (keep := keep) (i := i) (by omega)
    have HE := Lib.hid e
    clear e hlen
    go_enter Try.func50, Try.ntmps50
    go_wp2_with (refine step_load 76 _ h (n * 49) (lArr (p.at n)) rfl rfl rfl HW.out _ Try.underlying76 rfl 49 Try.size76 HS.out ?_)
    refine (kept_any (p.at n) 0 HOK.out (by omega) w).mono ?_
    rintro e w2 ⟨rfl, hbel⟩
    have HP2 := Lib.hid (HB.out.below hbel)
    have HR := Lib.hid (HP2.out.room hn)
    have hok2 := keptL_ok HOK.out 0
    have HS2 := Lib.hid (lArr_size hok2)
    have HOK2 := Lib.hid hok2
    clear hok2
    go_wp2_with (refine step_store 76 _ _ h (n * 49) (lArr (keptL (p.at n) 0)) rfl rfl rfl rfl 49 HR.out Try.size76 HS2.out (lArr_one _) ?_)
    go_end0
    rw [HE.out]
    exact ⟨rfl, HP2.out.setLeaf hn HOK2.out, (Off.of_below hbel).setCells (.inr (.inl rfl)) _ _⟩
end Go.Proofs.Ytdjkkpefljapcaa
