/- The leaf of a record in plain Lean, and the contracts of journal.sum, lombardref24.sum and of the copies of bytes. -/
import Derived.Test.YtdjkkpefljapcaaLeafG
import Derived.Test.YtdjkkpefljapcaaOwnByte
import Derived.Lib.Hide
import Derived.StillTailTactics
import Derived.Deep.QuietTactic
import Derived.WalkSpells
namespace Go.Proofs.Ytdjkkpefljapcaa
open Go.RowKit
set_option linter.unusedVariables false
set_option linter.unusedSimpArgs false

/-- A number's four bytes, the highest first. -/
def hi4 (s : Int) : List Int := [s / 16777216 % 256, s / 65536 % 256, s / 256 % 256, s % 256]
theorem hi4_len (s : Int) : (hi4 s).length = 4 := rfl
theorem hi4_bytes (s : Int) : isBytes (hi4 s) := by
  intro b hb
  unfold hi4 at hb
  simp only [List.mem_cons, List.not_mem_nil, or_false] at hb
  omega
/-- The sum of a leaf's number and its middle part. -/
def sumV (n : Int) (mid : List Int) : Int := adMore 1 (hi4 n ++ mid)
theorem sumV_range (n : Int) (mid : List Int) : 0 ≤ sumV n mid ∧ sumV n mid < 4294967296 := adMore_range _ _
/-- The bytes of a leaf that are summed. -/
def midOf (x : List Int) : List Int := (x.drop 4).take 43
theorem midOf_len {x : List Int} (h : x.length = 48) : (midOf x).length = 43 := by simp [midOf, h]
theorem midOf_bytes {x : List Int} (h : isBytes x) : isBytes (midOf x) := fun b hb => h b (List.mem_of_mem_drop (List.mem_of_mem_take hb))
theorem isBytes_append {a b : List Int} (ha : isBytes a) (hb : isBytes b) : isBytes (a ++ b) := fun x hx => (List.mem_append.1 hx).elim (ha x) (hb x)

theorem Try.zero82 : (Try.prog.info? 82).map (·.zero) = some (some (.agg (bArr [0, 0, 0, 0]))) := by kernel_rfl
theorem Try.size82 : (Try.prog.info? 82).map (·.size) = some 4 := by kernel_rfl

theorem Try.built82 (a b c d : Int) : Try.prog.built 82 [(0, .int .u8 a), (1, .int .u8 b), (2, .int .u8 c), (3, .int .u8 d)] = some (bArr [a, b, c, d]) := by kernel_rfl
theorem own_form {w : World} {base : Nat} {e : TypeId} {size n : Nat} {v : Value} {xs : List Value} (h : w.ownsRow base e size v n xs) : ∃ A c, v = .slice A n c ∧ Reads w w.heap.size size A n xs := by
  rcases h.2 with ⟨rfl, rfl⟩ | ⟨g, cap, cur, rfl, _⟩
  · exact ⟨none, 0, rfl, h.1, fun h => absurd h (by omega)⟩
  · exact ⟨_, _, rfl, Reads.of_own h⟩
/-- A new block whole, as a row of the call's own. -/
theorem own_new {w : World} {base g : Nat} {e : TypeId} {C : Array Value} {n : Nat} (h : Blk w g e C) (hb : base ≤ g) (hn : n ≤ maxLen) (hC : C.size = n) : w.ownsRow base e 1 (.slice (some ⟨g, 0, none⟩) n n) n C.toList :=
  ⟨by simp [hC], .inr ⟨g, n, C, rfl, hb, h, Nat.le_refl _, hn, by simp [hC], by rw [List.take_of_length_le (by simp [hC])]⟩⟩
theorem step_storeW {ops : Array Oper} {rest : List Oper} {o : Oper} {a : Act} {w W : World} {Q : Exit → Act → World → Prop} (ty : TypeId) (x y : Operand) (b f : Nat) (C : Array Value) (hg : o.guard = none) (ho : o.op = .store ty x y) (hx : a.eval x = .pointer (some ⟨b, f, none⟩)) (hy : a.eval y = .agg C) (n : Nat) (ht : w.there b f n) (hi : (Try.prog.info? ty).map (·.size) = some n) (hn : C.size = n) (h1 : C.all (·.oneCell') = true) (hW : w.setCells b f C.toList = W)
    (h : wpList Try.prog ops Q rest (a.put o.dst undef) W) : wpList Try.prog ops Q (o :: rest) a w := by
  subst hW
  exact step_store ty x y b f C hg ho hx hy n ht hi hn h1 h
theorem bArr_get (b : List Int) (i : Nat) (hi : i < b.length) : (bArr b)[i]? = some (.int .u8 (b.getD i 0)) := by simp [bArr, List.getD, List.getElem?_eq_getElem hi]
theorem bArr_set (b : List Int) (i : Nat) (v : Int) : (bArr b).setIfInBounds i (.int .u8 v) = bArr (b.set i v) := by
  unfold bArr
  rw [List.setIfInBounds_toArray, List.map_set]

set_option maxRecDepth 100000 in
set_option maxHeartbeats 1000000 in
theorem jsum_any (n : Int) (x : List Int) (h0 : 0 ≤ n) (h1 : n ≤ 20000) (hx : x.length = 48) (hb : isBytes x) (w : World) :
    Calls Try.prog 54 #[.int .i64 n, .agg (bArr x)] w fun e w' => e = .returned (.agg (bArr (hi4 (sumV n (midOf x))))) ∧ Below w.heap.size w w' := by
  obtain ⟨i0, hi, hz0, hz1, hz2⟩ := info_parts Try.info_u8
  have hB : Blk (((w.alloc (.cells (bArr x) 26)).alloc (.cells #[.int .u8 0, .int .u8 0, .int .u8 0, .int .u8 0] 82)).alloc (.cells #[.int .u8 (n / 16777216), .int .u8 (n / 65536), .int .u8 (n / 256), .int .u8 (n % 256)] 5)) (w.heap.size + 1 + 1) 5 (bArr (hi4 n)) := by
    have := Blk.new ((w.alloc (.cells (bArr x) 26)).alloc (.cells #[.int .u8 0, .int .u8 0, .int .u8 0, .int .u8 0] 82)) 5 (bArr (hi4 n))
    rw [show ((w.alloc (.cells (bArr x) 26)).alloc (.cells #[.int .u8 0, .int .u8 0, .int .u8 0, .int .u8 0] 82)).heap.size = w.heap.size + 1 + 1 from by simp] at this
    have hh : bArr (hi4 n) = #[.int .u8 (n / 16777216), .int .u8 (n / 65536), .int .u8 (n / 256), .int .u8 (n % 256)] := by
      unfold hi4 bArr
      rw [show n / 16777216 % 256 = n / 16777216 from by omega, show n / 65536 % 256 = n / 65536 from by omega, show n / 256 % 256 = n / 256 from by omega]
      rfl
    rw [hh] at this ⊢
    exact this
  have hX : Blk (((w.alloc (.cells (bArr x) 26)).alloc (.cells #[.int .u8 0, .int .u8 0, .int .u8 0, .int .u8 0] 82)).alloc (.cells #[.int .u8 (n / 16777216), .int .u8 (n / 65536), .int .u8 (n / 256), .int .u8 (n % 256)] 5)) w.heap.size 26 (bArr x) := ((Blk.new w 26 _).alloc _).alloc _
  have hZ : Blk (((w.alloc (.cells (bArr x) 26)).alloc (.cells #[.int .u8 0, .int .u8 0, .int .u8 0, .int .u8 0] 82)).alloc (.cells #[.int .u8 (n / 16777216), .int .u8 (n / 65536), .int .u8 (n / 256), .int .u8 (n % 256)] 5)) (w.heap.size + 1) 82 (bArr [0, 0, 0, 0]) := (Blk.new1 w _ 82 (bArr [0, 0, 0, 0])).alloc _
  have hL : Below w.heap.size w (((w.alloc (.cells (bArr x) 26)).alloc (.cells #[.int .u8 0, .int .u8 0, .int .u8 0, .int .u8 0] 82)).alloc (.cells #[.int .u8 (n / 16777216), .int .u8 (n / 65536), .int .u8 (n / 256), .int .u8 (n % 256)] 5)) := (((Below.refl _ _).alloc (Nat.le_refl _) _).alloc (by simp) _).alloc (by simp; omega) _
  have hS : (((w.alloc (.cells (bArr x) 26)).alloc (.cells #[.int .u8 0, .int .u8 0, .int .u8 0, .int .u8 0] 82)).alloc (.cells #[.int .u8 (n / 16777216), .int .u8 (n / 65536), .int .u8 (n / 256), .int .u8 (n % 256)] 5)).heap.size = w.heap.size + 3 := by simp
  have HB := Lib.hid hB
  have HX := Lib.hid hX
  have HZ := Lib.hid hZ
  have HL := Lib.hid hL
  have HS := Lib.hid hS
  have HXL := Lib.hid hx
  have HXB := Lib.hid hb
  have hml : ((midOf x).map (Value.int .u8)).length = 43 * 1 := by rw [List.length_map, midOf_len hx]
  have HML := Lib.hid hml
  clear hml
  clear hB hX hZ hL hS hx hb
  go_enter Try.func54, Try.ntmps54
  go_wp2_with (at_builtin; go_loud (refine wpList_append_own _ rfl _ _ 44 rfl (w.heap.size + 2) 5 i0 _ 1 1 Try.underlying44 hi hz0 hz1 hz2 rfl (by decide) _ _ _ rfl (own_new HB.out (by omega) (by decide) rfl) ⟨w.heap.size, 4, none⟩ 43 44 ((midOf x).map (Value.int .u8)) rfl HML.out ?c1 ?c2 ?c3 ?c4 ?c5 ?_))
  case c1 =>
    intro j u hu
    rw [Addr.add_lit, HX.out.cell]
    unfold bArr
    rw [List.getElem?_toArray, ← hu]
    have hj : j < 43 := by have := (List.getElem?_eq_some_iff.1 hu).1; rw [List.length_map, midOf_len HXL.out] at this; exact this
    simp only [List.getElem?_map, midOf]
    rw [List.getElem?_take_of_lt hj, List.getElem?_drop]
  case c2 => exact ints_oneCell _ _
  case c3 => unfold maxLen; omega
  case c4 => omega
  case c5 => rw [HS.out]; omega
  intro v' w1 hown' hgrow _
  have e1 : (bArr (hi4 n)).toList ++ (midOf x).map (Value.int .u8) = (hi4 n ++ midOf x).map (Value.int .u8) := by simp [bArr]
  rw [e1] at hown'
  obtain ⟨A', c', rfl, hr⟩ := own_form hown'
  have hnum : Nums .u8 w1 w1.heap.size A' (4 + 43) (hi4 n ++ midOf x) := hr
  have HN := Lib.hid hnum
  have HZ1 := Lib.hid (HZ.out.grown hgrow (by intro e; injection e with e; have e' : w.heap.size + 1 = w.heap.size + 1 + 1 := e; omega))
  have HL1 := Lib.hid (HL.out.grown hgrow (by rw [HS.out]; omega) (fun k hk => by injection hk with hk; have hk' : w.heap.size + 1 + 1 = k := hk; omega))
  clear hr hnum hown' hgrow e1
  have hsb := sumV_range n (midOf x)
  have hbb : isBytes (hi4 n ++ midOf x) := isBytes_append (hi4_bytes n) (midOf_bytes HXB.out)
  have HBB := Lib.hid hbb
  clear hbb
  go_wp2_with fail
  refine (sum_any _ (4 + 43) _ _ _ _ HN.out HBB.out (by unfold maxLen; omega)).mono ?_
  rintro e w2 ⟨rfl, rfl⟩
  rw [show adMore 1 (hi4 n ++ midOf x) = sumV n (midOf x) from rfl]
  generalize hsv : sumV n (midOf x) = s at *
  have HSV := Lib.hid hsv
  clear hsv
  obtain ⟨hs0, hs1⟩ := hsb
  have hh : hi4 s = [s / 16777216, s / 65536 % 256, s / 256 % 256, s % 256] := by unfold hi4; rw [show s / 16777216 % 256 = s / 16777216 from by omega]
  have HH := Lib.hid hh
  clear hh
  have c0 : w1.cell? ⟨w.heap.size + 1, 0, none⟩ = some (.int .u8 0) := by rw [HZ1.out.cell]; rfl
  have c1 : w1.cell? ⟨w.heap.size + 1, 1, none⟩ = some (.int .u8 0) := by rw [HZ1.out.cell]; rfl
  have c2 : w1.cell? ⟨w.heap.size + 1, 2, none⟩ = some (.int .u8 0) := by rw [HZ1.out.cell]; rfl
  have c3 : w1.cell? ⟨w.heap.size + 1, 3, none⟩ = some (.int .u8 0) := by rw [HZ1.out.cell]; rfl
  have f0 := HZ1.out.frozen 0
  have f1 := HZ1.out.frozen 1
  have f2 := HZ1.out.frozen 2
  have f3 := HZ1.out.frozen 3
  go_wp2_with fail
  have hB3 := (((HZ1.out.set_ 0 (.int .u8 (s / 16777216))).set_ 1 (.int .u8 (s / 65536 % 256))).set_ 2 (.int .u8 (s / 256 % 256))).set_ 3 (.int .u8 (s % 256))
  have hB4 := hB3
  change Blk _ (w.heap.size + 1) 82 (bArr [s / 16777216, s / 65536 % 256, s / 256 % 256, s % 256]) at hB4
  rw [← HH.out] at hB4
  exact bodyPost_ret (v := .agg (bArr (hi4 s))) (ret_agg rfl _ _ (w.heap.size + 1) 82 (bArr (hi4 s)) _ rfl hB4 Try.underlying82 rfl 4 Try.size82 rfl) rfl ⟨by rw [HSV.out], (((HL1.out.setCell (by simp) _).setCell (by simp) _).setCell (by simp) _).setCell (by simp) _⟩
end Go.Proofs.Ytdjkkpefljapcaa
