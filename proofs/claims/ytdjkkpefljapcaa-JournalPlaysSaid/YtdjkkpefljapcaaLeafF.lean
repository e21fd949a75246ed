/- The walk of lombardlaw23.awake, and of the laws LeafNil and LeafOutside. -/
import Derived.Test.YtdjkkpefljapcaaLeafE
import Derived.Test.YtdjkkpefljapcaaEqArr
namespace Go.Proofs.Ytdjkkpefljapcaa
open Go.RowKit
set_option linter.unusedVariables false
set_option linter.unusedSimpArgs false

def b7 : List Int := 7 :: List.replicate 47 0
theorem b7_len : b7.length = 48 := by simp [b7]
theorem b7_bytes : isBytes b7 := by
  intro b hb
  unfold b7 at hb
  rcases List.mem_cons.1 hb with rfl | hb
  · omega
  · exact isBytes_rep 47 0 (by omega) (by omega) b hb
theorem Try.built26_7 : Try.prog.built 26 [(0, .int .u8 7)] = some (bArr b7) := by kernel_rfl
def aw1 : Pd := ((Pd.new 3).put 1 ⟨1, b7⟩).stroke
def aw2 : Pd := aw1.stroke.dry
theorem aw_facts : (Pd.new 3).l.length = 3 ∧ ((Pd.new 3).at 1).is = 0 ∧ (Pd.new 3).down = false ∧ (Pd.new 3).falls = 0 ∧ (Pd.new 3).snag = 0 ∧ wetN aw1.l = 1 ∧ aw1.down = false ∧ aw1.falls = 0 ∧ aw1.snag = 0 ∧ aw2.l.length = 3 ∧ wetN aw2.l = 0 ∧ (aw2.at 1).is = 2 ∧ (aw2.at 1).b = b7 := by
  refine ⟨rfl, rfl, rfl, rfl, rfl, rfl, rfl, rfl, rfl, rfl, rfl, rfl, rfl⟩

/-- What a pad's methods leave: the pad, and all that was there before B. -/
def Stands (w w' : World) (B g h : Nat) (p : Pd) : Prop := PadAt w' g h p ∧ Below B w w'
theorem Stands.next {w w' w'' : World} {B g h : Nat} {p q : Pd} (hs : Stands w w' B g h p) (h1 : B ≤ g) (h2 : B ≤ h) (h3 : B ≤ w.heap.size) (hp : PadAt w'' g h q) (ho : Off g h w' w'') : Stands w w'' B g h q :=
  ⟨hp, hs.2.trans (ho.below h1 h2 (Nat.le_trans h3 hs.2.size))⟩
theorem Stands.same {w w' w'' : World} {B g h : Nat} {p : Pd} (hs : Stands w w' B g h p) (h3 : B ≤ w.heap.size) (hb : Below w'.heap.size w' w'') : Stands w w'' B g h p :=
  ⟨hs.1.below hb, hs.2.trans (hb.mono (Nat.le_trans h3 hs.2.size))⟩

set_option maxRecDepth 100000 in
set_option maxHeartbeats 1000000 in
theorem awake23 (w : World) : Calls Try.prog 16 #[] w fun e w' => e = .returned (.bool true) ∧ Below w.heap.size w w' := by
  obtain ⟨q1, q2, q3, q4, q5, q6, q7, q8, q9, q10, q11, q12, q13⟩ := aw_facts
  go_enter Try.func16, Try.ntmps16
  go_wp2_with fail
  refine (new_any 3 (by omega) (by omega) _).mono ?_
  rintro e w1 ⟨g, h, rfl, hp, h1, h2, hb⟩
  have HS := Lib.hid (show Stands w w1 w.heap.size g h (Pd.new 3) from ⟨hp, hb⟩)
  have Q := Lib.hid aw_facts
  clear hp hb q1 q2 q3 q4 q5 q6 q7 q8 q9 q10 q11 q12 q13
  go_wp2_with (refine step_buildG 26 _ (bArr b7) rfl rfl Try.built26_7 ?_)
  have hink := ink_put 1 b7 0 HS.out.1 (by show (0 : Int) < 1000000000; omega) rfl (by show 1 < 3; omega) rfl b7_len b7_bytes rfl
  refine hink.mono ?_
  clear hink
  rintro e w2 ⟨rfl, hp, ho⟩
  have HS2 := Lib.hid (show Stands w w2 w.heap.size g h aw1 from HS.out.next h1 h2 (Nat.le_refl _) hp ho)
  clear hp ho HS
  go_wp2_with fail
  refine (wet_any HS2.out.1).mono ?_
  rintro e w3 ⟨rfl, hb⟩
  have HS3 := Lib.hid (HS2.out.same (Nat.le_refl _) hb)
  clear hb HS2
  rw [show ((wetN aw1.l : Nat) : Int) = 1 from rfl]
  go_wp2_with fail
  refine (dry_up HS3.out.1 (by show (0 : Int) < 1000000000; omega) rfl (by show ¬ (0 : Int) = 1; omega)).mono ?_
  rintro e w4 ⟨rfl, hp, ho⟩
  have HS4 := Lib.hid (show Stands w w4 w.heap.size g h aw2 from HS3.out.next h1 h2 (Nat.le_refl _) hp ho)
  clear hp ho HS3
  go_wp2_with fail
  refine (leaf_any 1 HS4.out.1).mono ?_
  rintro e w5 ⟨rfl, hb⟩
  rw [show aw2.tell 1 = (b7, true) from rfl]
  have HS5 := Lib.hid (HS4.out.same (Nat.le_refl _) hb)
  have hs5 : w.heap.size ≤ w5.heap.size := HS5.out.2.size
  clear hb HS4
  dsimp only
  have hb6 : Blk ((w5.alloc (.cells zArr 26)).setCells w5.heap.size 0 (bArr b7).toList) w5.heap.size 26 (bArr b7) := (Blk.new w5 26 zArr).overwrite (by rw [bArr_size b7_len, zArr_size])
  have c6 : ((w5.alloc (.cells zArr 26)).setCells w5.heap.size 0 (bArr b7).toList).cell? ⟨w5.heap.size, 0, none⟩ = some (.int .u8 7) := by rw [hb6.cell]; rfl
  have hs6 : Below w5.heap.size w5 ((w5.alloc (.cells zArr 26)).setCells w5.heap.size 0 (bArr b7).toList) := ((Below.refl _ _).alloc (Nat.le_refl _) _).trans ((Off.refl w5.heap.size w5.heap.size _).setCells (.inl rfl) _ _ |>.below (Nat.le_refl _) (Nat.le_refl _) (by simp))
  have HS6 := Lib.hid (HS5.out.same (Nat.le_refl _) hs6)
  clear hb6 hs6 HS5
  generalize hW : (w5.alloc (.cells zArr 26)).setCells w5.heap.size 0 (bArr b7).toList = w6 at *
  have HW := Lib.hid hW
  clear hW
  go_wp2_with (first
    | (with_reducible refine step_alloc 26 zArr Try.zero26 rfl rfl ?_)
    | (refine step_store 26 _ _ w5.heap.size 0 (bArr b7) rfl rfl rfl rfl 48 ((Blk.new _ _ _).allThere zArr_size) Try.size26 (bArr_size b7_len) (bArr_one _) ?_; rw [HW.out]))
  refine (len_any HS6.out.1).mono ?_
  rintro e w7 ⟨rfl, rfl⟩
  rw [show ((aw2.l.length : Nat) : Int) = 3 from rfl]
  go_wp2_with fail
  refine (wet_any HS6.out.1).mono ?_
  rintro e w8 ⟨rfl, hb⟩
  have HS8 := Lib.hid (HS6.out.same (Nat.le_refl _) hb)
  clear hb HS6
  rw [show ((wetN aw2.l : Nat) : Int) = 0 from rfl]
  go_wp2_with fail
  go_ret
  exact ⟨rfl, HS8.out.2⟩
end Go.Proofs.Ytdjkkpefljapcaa
