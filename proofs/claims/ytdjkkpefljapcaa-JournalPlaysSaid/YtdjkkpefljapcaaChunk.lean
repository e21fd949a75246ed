/- slices.Chunk at bytes, 41 to a chunk: what the call makes, and the contract of the iterator that it hands back. -/
import Derived.Test.YtdjkkpefljapcaaJouB
import Derived.RangeFuncNested
import Derived.RangeFuncBound
import Derived.RangeFuncCalls
import Derived.RangeFuncLeaves
import Derived.RangeFuncBox
import Derived.Shelf.Abstract
import Derived.Shelf.RegionOpen
import Derived.WalkKit
import Derived.OwnWalkIn
import Derived.TacticsInMore
import Derived.LoopNIn
import Derived.LoopIn
namespace Go.Proofs.Ytdjkkpefljapcaa
open Go.RowKit Go.Shelf
set_option linter.unusedVariables false
set_option linter.unusedSimpArgs false

theorem slice_lhm {P : Program} (t : TypeId) (ht : P.underlying t = some (.slice (P.elem t))) (ad : Addr) (n cap l m : Nat) (h1 : l + m ≤ cap) (hm : 0 < m) (hs : ∀ w, (sizeOf (P.elem t)).run P w = .ok 1 w) (h : Int) (hh : h = (l : Int) + (m : Int)) :
    ∀ w, (Instr.slice t (.slice (some ad) n cap) (some (.int .i64 (l : Int))) (some (.int .i64 h)) (some (.int .i64 h))).run P w = .ok (.slice (some (ad.add l)) m m) w := by
  intro w
  rw [run_slice_lhm w t (some ad) n cap ht .i64 .i64 .i64 (l : Int) h h (by omega) (by omega) (by omega) (by omega), hs]
  simp only [Result.andThen, sliced]
  have e1 : h.toNat - (l : Int).toNat = m := by omega
  have e2 : (l : Int).toNat = l := by omega
  rw [e1, e2, if_neg (by omega)]
  simp

set_option maxRecDepth 100000 in
/-- slices.Chunk: the slice and the number are boxed. -/
theorem chunk_any (a : Option Addr) (len cap : Nat) (w : World) : Calls Try.prog 61 #[.slice a len cap, .int .i64 41] w fun e w' =>
    e = .returned (.func (.func 67) #[] #[.pointer (some ⟨w.heap.size, 0, none⟩), .pointer (some ⟨w.heap.size + 1, 0, none⟩)]) ∧ w' = (w.alloc (.cells #[.slice a len cap] 44)).alloc (.cells #[.int .i64 41] 3) := by
  go_enter Try.func61, Try.ntmps61
  go_wp2
  go_ret
  exact ⟨rfl, rfl⟩

/-- The chunk of number x (of number 0 where there is none). -/
def clip (len x : Nat) : Nat := if 41 * x < len then x else 0
def chunkS (ad : Addr) (len x : Nat) : Value := .slice (some (ad.add (41 * clip len x))) (min 41 (len - 41 * clip len x)) (min 41 (len - 41 * clip len x))
theorem clip_of {len x : Nat} (h : 41 * x < len) : clip len x = x := if_pos h

attribute [local go_sem] Oper.semAt_some

set_option maxRecDepth 100000 in
set_option maxHeartbeats 2000000 in
theorem chunk1_in (n l b1 b2 : Nat) (ad : Addr) (len cap B : Nat) (hn : 1 ≤ n) (Kp : World → World → Prop) (J Jx : List Nat → World → Prop) (hlen : len ≤ 1000000) (hcap : len ≤ cap) (hcm : cap ≤ maxLen)
    (hk1 : ∀ W W' t cs, Kp W W' → Blk W b1 t cs → Blk W' b1 t cs) (hk2 : ∀ W W' t cs, Kp W W' → Blk W b2 t cs → Blk W' b2 t cs) (hJ : AbidesFrom B J)
    (hY : ∀ pre x W, J pre W → pre.length < (len + 40) / 41 → YieldAt Fence.wide (n - 1) Try.prog l #[chunkS ad len x] W fun e W' =>
      (e = .returned (.bool true) ∧ J (pre ++ [x]) W' ∧ Kp W W') ∨ (e = .returned (.bool false) ∧ Jx (pre ++ [x]) W'))
    (W : World) (c1 : Blk W b1 44 #[.slice (some ad) len cap]) (c2 : Blk W b2 3 #[.int .i64 41]) (h0 : J [] W) :
    CallsIn Fence.wide n Try.prog 67 #[.func (.yield l) #[] #[], .pointer (some ⟨b1, 0, none⟩), .pointer (some ⟨b2, 0, none⟩)] W fun e W' => (∃ v, e = .returned v) ∧
      ((∃ ys, ys = List.range ((len + 40) / 41) ∧ J ys W') ∨ (∃ pre, (∃ k, k ≤ (len + 40) / 41 ∧ pre = List.range k) ∧ Jx pre W')) := by
  have hs : ∀ w, (sizeOf (Try.prog.elem 44)).run Try.prog w = .ok 1 w := fun w => by kernel_rfl
  have HY := Lib.hid hY
  have HJ := Lib.hid hJ
  clear hY hJ
  refine callsIn_of_wp Try.func67 rfl trivial ?_ rfl
  simp only [Try.ntmps67, List.size_toArray, List.length_cons, List.length_nil, Nat.reduceAdd, Nat.reduceSub, Array.replicate_succ, Array.replicate_zero, List.push_toArray, List.append_toArray, List.nil_append, List.cons_append]
  gi_wp2
  gi_loopw [4] (fun i wr => ∃ k m : Nat, m = 41 * k ∧ i = .int .i64 m ∧ m < len + 41 ∧ J (List.range k) wr ∧ Blk wr b1 44 #[.slice (some ad) len cap] ∧ Blk wr b2 3 #[.int .i64 41])
    (fun i _ => len + 41 - (intOf i).toNat)
  case atStart => exact ⟨0, 0, rfl, rfl, by omega, h0, c1, c2⟩
  case round =>
    obtain ⟨k, m, hm, rfl, hmb, hj, g1, g2⟩ := hrel
    have d1 : wr.cell? ⟨b1, 0, none⟩ = some (.slice (some ad) len cap) := by rw [g1.cell]; rfl
    have d2 : wr.cell? ⟨b2, 0, none⟩ = some (.int .i64 41) := by rw [g2.cell]; rfl
    have G1 := Lib.hid g1
    have G2 := Lib.hid g2
    clear g1 g2
    have HM := Lib.hid hm
    clear hm
    by_cases hlt : m < len
    · obtain ⟨r, hr⟩ : ∃ r, m + r = len := ⟨len - m, by omega⟩
      obtain ⟨A', hA', hsl⟩ := slice_l (P := Try.prog) 44 Try.underlying44 (some ad) len cap m (by omega) 1 hs
      rw [show len - m = r from by omega] at hsl
      clear hA'
      have HR := Lib.hid hr
      have hN : k < (len + 40) / 41 := by have := HM.out; omega
      have HN := Lib.hid hN
      have hr1 : 0 < r := by omega
      clear hN hr
      have hcl : chunkS ad len k = .slice (some (ad.add m)) (min 41 r) (min 41 r) := by
        unfold chunkS
        rw [clip_of (by have := HM.out; omega), show len - 41 * k = r from by have := HM.out; have := HR.out; omega, show 41 * k = m from HM.out.symm]
      by_cases h41 : r < 41
      · have hsl2 := slice_lhm (P := Try.prog) 44 Try.underlying44 ad len cap m r (by have := HR.out; omega) hr1 hs ((m : Int) + (r : Int)) rfl
        rw [show min 41 r = r from by omega] at hcl
        gi_wp2
        refine wpIn_wide.2 ?_
        go_quiet (fail)
        have hj' : J (List.range k) (wr.drewN nq) := HJ.out _ _ _ none hj ⟨rfl, rfl, rfl, Nat.le_refl _, fun _ _ _ => rfl⟩ (fun _ h => by cases h)
        obtain ⟨fn, tmps, assign, body, hy, hRd⟩ := HY.out (List.range k) k (wr.drewN nq) hj' (by rw [List.length_range]; exact HN.out)
        rw [hcl] at hy
        gi_wp2
        refine hRd.mono ?_
        rintro e W3 (⟨rfl, hJ3, hk3⟩ | ⟨rfl, hJx3⟩)
        · have g1 : Blk W3 b1 44 #[.slice (some ad) len cap] := hk1 _ _ _ _ hk3 (G1.out.drewN nq)
          have g2 : Blk W3 b2 3 #[.int .i64 41] := hk2 _ _ _ _ hk3 (G2.out.drewN nq)
          have e1 : W3.cell? ⟨b1, 0, none⟩ = some (.slice (some ad) len cap) := by rw [g1.cell]; rfl
          have e2 : W3.cell? ⟨b2, 0, none⟩ = some (.int .i64 41) := by rw [g2.cell]; rfl
          have G1' := Lib.hid g1
          have G2' := Lib.hid g2
          clear g1 g2
          have HJ3 := Lib.hid hJ3
          clear hJ3 hk3 hj'
          gi_wp2
          go_roundw
          case rel => exact ⟨k + 1, m + 41, by have := HM.out; omega, by go_num, by omega, by rw [List.range_succ]; exact HJ3.out, G1'.out, G2'.out⟩
          case measure => simp [intOf]; omega
        · have HJ3 := Lib.hid hJx3
          clear hJx3 hj'
          gi_wp2
          refine bodyPost_ret (results_none rfl _ _ _) rfl ?_
          exact ⟨⟨_, rfl⟩, .inr ⟨_, ⟨k + 1, HN.out, (List.range_succ).symm⟩, HJ3.out⟩⟩
      · have hsl2 := slice_lhm (P := Try.prog) 44 Try.underlying44 ad len cap m 41 (by have := HR.out; omega) (by omega) hs ((m : Int) + 41) rfl
        rw [show min 41 r = 41 from by omega] at hcl
        gi_wp2
        refine wpIn_wide.2 ?_
        go_quiet (fail)
        have hj' : J (List.range k) (wr.drewN nq) := HJ.out _ _ _ none hj ⟨rfl, rfl, rfl, Nat.le_refl _, fun _ _ _ => rfl⟩ (fun _ h => by cases h)
        obtain ⟨fn, tmps, assign, body, hy, hRd⟩ := HY.out (List.range k) k (wr.drewN nq) hj' (by rw [List.length_range]; exact HN.out)
        rw [hcl] at hy
        gi_wp2
        refine hRd.mono ?_
        rintro e W3 (⟨rfl, hJ3, hk3⟩ | ⟨rfl, hJx3⟩)
        · have g1 : Blk W3 b1 44 #[.slice (some ad) len cap] := hk1 _ _ _ _ hk3 (G1.out.drewN nq)
          have g2 : Blk W3 b2 3 #[.int .i64 41] := hk2 _ _ _ _ hk3 (G2.out.drewN nq)
          have e1 : W3.cell? ⟨b1, 0, none⟩ = some (.slice (some ad) len cap) := by rw [g1.cell]; rfl
          have e2 : W3.cell? ⟨b2, 0, none⟩ = some (.int .i64 41) := by rw [g2.cell]; rfl
          have G1' := Lib.hid g1
          have G2' := Lib.hid g2
          clear g1 g2
          have HJ3 := Lib.hid hJ3
          clear hJ3 hk3 hj'
          gi_wp2
          go_roundw
          case rel => exact ⟨k + 1, m + 41, by have := HM.out; omega, by go_num, by omega, by rw [List.range_succ]; exact HJ3.out, G1'.out, G2'.out⟩
          case measure => simp [intOf]; omega
        · have HJ3 := Lib.hid hJx3
          clear hJx3 hj'
          gi_wp2
          refine bodyPost_ret (results_none rfl _ _ _) rfl ?_
          exact ⟨⟨_, rfl⟩, .inr ⟨_, ⟨k + 1, HN.out, (List.range_succ).symm⟩, HJ3.out⟩⟩
    · gi_wp2
      go_end0
      refine ⟨⟨_, rfl⟩, .inl ⟨_, rfl, ?_⟩⟩
      rw [show (len + 40) / 41 = k from by have := HM.out; omega]
      exact hj

/-- What the call hands back stops where it is told to; else all chunks come, in order. -/
theorem chunk_stops (n b1 b2 : Nat) (ad : Addr) (len cap : Nat) (hn : 1 ≤ n) (Kp : World → World → Prop) (hlen : len ≤ 1000000) (hcap : len ≤ cap) (hcm : cap ≤ maxLen)
    (hk1 : ∀ W W' t cs, Kp W W' → Blk W b1 t cs → Blk W' b1 t cs) (hk2 : ∀ W W' t cs, Kp W W' → Blk W b2 t cs → Blk W' b2 t cs) (w : World) (c1 : Blk w b1 44 #[.slice (some ad) len cap]) (c2 : Blk w b2 3 #[.int .i64 41]) :
    SeqStopsK Fence.wide n Try.prog 67 #[.pointer (some ⟨b1, 0, none⟩), .pointer (some ⟨b2, 0, none⟩)] (fun x : Nat => #[chunkS ad len x]) Kp (fun ys => ys = List.range ((len + 40) / 41)) (fun pre => ∃ k, k ≤ (len + 40) / 41 ∧ pre = List.range k) ((len + 40) / 41) w :=
  fun l J Jx W hW hJ _ hY h0 => chunk1_in n l b1 b2 ad len cap W.heap.size hn Kp J Jx hlen hcap hcm hk1 hk2 hJ hY W (c1.below hW c1.lt) (c2.below hW c2.lt) h0
end Go.Proofs.Ytdjkkpefljapcaa
