/- lombardlaw24.awake says true. -/
import Derived.Test.YtdjkkpefljapcaaPlay
namespace Go.Proofs.Ytdjkkpefljapcaa
open Go.RowKit
set_option linter.unusedVariables false
set_option linter.unusedSimpArgs false

def z50 : List Int := List.replicate 50 0
theorem z50_len : z50.length = 50 := by simp [z50]
theorem z50_bytes : isBytes z50 := isBytes_rep 50 0 (by omega) (by omega)
theorem need_z50 : need z50 = 2 := by unfold need; rw [z50_len]

/-- make([]byte, n): n bytes 0. -/
theorem make_bytes (n : Nat) (h : n ≤ 100000) (w : World) : (Instr.makeSlice 44 (.int .i64 n) (.int .i64 n)).run Try.prog w = .ok (.slice (some ⟨w.heap.size, 0, none⟩) n n) (w.alloc (.cells (bArr (List.replicate n 0)) 5)) := by
  obtain ⟨i0, hi, hz0, hz1, hz2⟩ := info_parts Try.info_u8
  have := run_makeSlice (P := Try.prog) w 44 5 i0 _ Try.underlying44 hi hz0 .i64 .i64 n n (by omega) (by omega) (by rw [hz1]; omega) (by rw [hz2]; omega) (by omega)
  rw [this, hz1]
  have e : madeCells (Value.cells (.int .u8 0)) ((n : Int).toNat * 1) = bArr (List.replicate n 0) := by
    unfold bArr
    apply Array.ext'
    rw [show Value.cells (.int .u8 0) = #[Value.int .u8 0] from rfl, made_one]
    simp
  rw [e, Int.toNat_natCast]
/-- A new row of bytes. -/
theorem new_nums (w : World) (bs : List Int) : Nums .u8 (w.alloc (.cells (bArr bs) 5)) (w.heap.size + 1) (some ⟨w.heap.size, 0, none⟩) bs.length bs := Nums.new w 5 (0, 0) bs

set_option maxRecDepth 100000 in
set_option maxHeartbeats 2000000 in
theorem awake24 (w : World) : Calls Try.prog 28 #[] w fun e w' => e = .returned (.bool true) ∧ Below w.heap.size w w' := by
  go_enter Try.func28, Try.ntmps28
  go_wp2_with fail
  refine (new_any 5 (by omega) (by omega) _).mono ?_
  rintro e w1 ⟨g, h, rfl, hp, h1, h2, hb⟩
  have HP := Lib.hid hp
  have HB := Lib.hid hb
  clear hp hb
  go_wp2_with fail
  refine (open_any [] 0 HP.out rfl rfl (by show (0 : Int) < 1000000000; omega) (new_parse 5)).mono ?_
  rintro e w2 ⟨j, v, rfl, hp, hj, hj1, ho⟩
  rw [new_open] at hp
  have HP2 := Lib.hid hp
  have HJ2 := Lib.hid (hj.lower HB.out.size)
  have HGE := Lib.hid (show w.heap.size ≤ g ∧ w.heap.size ≤ h ∧ w.heap.size ≤ j ∧ w.heap.size ≤ w2.heap.size from ⟨h1, h2, Nat.le_trans HB.out.size hj1, Nat.le_trans HB.out.size ho.size⟩)
  have HB2 := Lib.hid (HB.out.trans (ho.below h1 h2 HB.out.size))
  have hsz := HB.out.size
  clear hp hj ho HP HB
  obtain ⟨w3, hw3⟩ : ∃ w3, w2.alloc (.cells (bArr z50) 5) = w3 := ⟨_, rfl⟩
  have hms : (Instr.makeSlice 44 (.int .i64 50) (.int .i64 50)).run Try.prog w2 = .ok (.slice (some ⟨w2.heap.size, 0, none⟩) 50 50) w3 := by
    rw [← hw3]
    exact make_bytes 50 (by omega) w2
  have hbl : Below w2.heap.size w2 w3 := by rw [← hw3]; exact (Below.refl _ _).alloc (Nat.le_refl _) _
  have hnu : Nums .u8 w3 (w2.heap.size + 1) (some ⟨w2.heap.size, 0, none⟩) 50 z50 := by
    have := new_nums w2 z50
    rw [z50_len, hw3] at this
    exact this
  have hbk : Blk w3 w2.heap.size 5 (bArr z50) := by rw [← hw3]; exact Blk.new w2 5 _
  have HNU := Lib.hid hnu
  have HBK := Lib.hid hbk
  have HP3 := Lib.hid (HP2.out.below hbl)
  have HJ3 := Lib.hid (HJ2.out.below hbl)
  have hgl := HP2.out.lt
  have HB3 := Lib.hid (HB2.out.trans (hbl.mono HB2.out.size))
  have HADD := Lib.hid (add_any ⟨w2.heap.size, 0, none⟩ 50 50 (w2.heap.size + 1) z50 HJ3.out HP3.out hnu (.inl ⟨_, _, hbk⟩) ⟨by show w2.heap.size ≠ g; omega, by show w2.heap.size ≠ h; omega⟩ (by omega) (by unfold maxLen; omega) z50_bytes (by omega) (by omega) rfl rfl (by show (0 : Int) < 1000000000; omega) (by rw [need_z50]; decide) (fun n _ _ => new_at 5 n) ⟨HGE.out.1, HGE.out.2.1, HGE.out.2.2.1, HB3.out.size⟩)
  clear hw3 hnu hbk hbl hgl HP2 HJ2 HB2
  go_wp2_with fail
  refine HADD.out.mono ?_
  rintro e w4 (⟨rfl, _, v', hp, hj, _, hb, _⟩ | ⟨_, hs1, _⟩)
  case inr => exact absurd hs1 (by decide)
  have HP4 := Lib.hid hp
  have HJ4 := Lib.hid hj
  have HB4 := Lib.hid (HB3.out.trans hb)
  clear hp hj hb
  go_wp2_with fail
  refine (used_any HJ4.out).mono ?_
  rintro e w5 ⟨rfl, rfl⟩
  rw [show ((0 + need z50 : Nat) : Int) = 2 from by rw [need_z50]; rfl]
  go_wp2_with fail
  refine (records_any HJ4.out (fun b hb => ?_)).mono ?_
  · rw [List.nil_append, List.mem_singleton] at hb
    subst hb
    rw [z50_len]
    omega
  rintro e w5 ⟨v5, rfl, hr, hb5⟩
  obtain ⟨A5, c5, rfl, _⟩ := hr.lst
  have HB5 := Lib.hid (HB4.out.trans (hb5.mono HB4.out.size))
  clear hr hb5
  rw [show ([] ++ [z50] : List (List Int)).length = 1 from rfl]
  go_wp2_with fail
  go_ret
  exact ⟨rfl, HB5.out⟩
end Go.Proofs.Ytdjkkpefljapcaa
