/- The contracts of journal.Page and lombardref24.Page where a leaf is refused; and of lombardref24.Page where it is not. -/
import Derived.Test.YtdjkkpefljapcaaJouP
namespace Go.Proofs.Ytdjkkpefljapcaa
open Go.RowKit
set_option linter.unusedVariables false
set_option linter.unusedSimpArgs false

/-- Not to be written. -/
def badPage (n : Int) (last : Bool) (m : Nat) : Prop := n < 0 ∨ (0 ≤ n ∧ 20000 < n) ∨ (0 ≤ n ∧ n ≤ 20000 ∧ m = 0) ∨ (0 ≤ n ∧ n ≤ 20000 ∧ 41 < m) ∨ (0 ≤ n ∧ n ≤ 20000 ∧ 1 ≤ m ∧ m < 41 ∧ last = false)

set_option maxRecDepth 100000 in
set_option maxHeartbeats 2000000 in
theorem page_bad (n : Int) (first last : Bool) (A : Option Addr) (m cap : Nat) (w : World) (h : badPage n last m) :
    Calls Try.prog 30 #[.int .i64 n, .bool first, .bool last, .slice A m cap] w fun e w' => e = .returned (.tuple #[.agg (bArr zb), .int .i64 1]) ∧ Below w.heap.size w w' := by
  have hR : Blk ((w.alloc (.cells zArr 26)).alloc (.cells zArr 26)) w.heap.size 26 zArr := (Blk.new w 26 _).alloc _
  have hX : Blk ((w.alloc (.cells zArr 26)).alloc (.cells zArr 26)) (w.heap.size + 1) 26 (bArr zb) := Blk.new1 w _ 26 _
  have hL : Below w.heap.size w ((w.alloc (.cells zArr 26)).alloc (.cells zArr 26)) := ((Below.refl _ _).alloc (Nat.le_refl _) _).alloc (by simp) _
  have hR8 : Blk (((w.alloc (.cells zArr 26)).alloc (.cells zArr 26)).setCells w.heap.size 0 (bArr zb).toList) w.heap.size 26 (bArr zb) := hR.overwrite rfl
  have hB8 : Below w.heap.size w (((w.alloc (.cells zArr 26)).alloc (.cells zArr 26)).setCells w.heap.size 0 (bArr zb).toList) := hL.trans ((Off.refl w.heap.size w.heap.size _).setCells (.inl rfl) _ _ |>.below (Nat.le_refl _) (Nat.le_refl _) (by simp; omega))
  have HR := Lib.hid hR
  have HX := Lib.hid hX
  have HR8 := Lib.hid hR8
  have HB8 := Lib.hid hB8
  clear hR hX hL hR8 hB8
  rcases h with h1 | ⟨h1, h2⟩ | ⟨h1, h2, rfl⟩ | ⟨h1, h2, h3⟩ | ⟨h1, h2, h3, h4, rfl⟩
  · have d4 : decide (n < 0) = true := decide_eq_true h1
    go_enter Try.func30, Try.ntmps30
    go_upto_region 2 with (with_reducible refine step_alloc 26 zArr Try.zero26 rfl rfl ?_)
    generalize hW8 : ((w.alloc (.cells zArr 26)).alloc (.cells zArr 26)).setCells w.heap.size 0 (bArr zb).toList = v8 at *
    have HW8 := Lib.hid hW8
    clear hW8
    generalize hW : (w.alloc (.cells zArr 26)).alloc (.cells zArr 26) = v0 at *
    clear hW
    go_wp2_with (first | (refine step_load 26 _ (w.heap.size + 1) 0 (bArr zb) rfl rfl rfl HX.out.all _ Try.underlying26 rfl 48 Try.size26 (bArr_size zb_len) ?_) | (refine step_storeW 26 _ _ w.heap.size 0 (bArr zb) rfl rfl rfl rfl 48 (HR.out.allThere zArr_size) Try.size26 (bArr_size zb_len) (bArr_one _) HW8.out ?_))
    exact bodyPost_ret (v := .tuple #[.agg (bArr zb), .int .i64 1]) (ret_agg2 rfl _ _ _ _ _ _ _ rfl rfl HR8.out Try.underlying26 rfl 48 Try.size26 (bArr_size zb_len)) rfl ⟨rfl, HB8.out⟩
  · have d4 : decide (n < 0) = false := decide_eq_false (by omega)
    have d5 : decide (20000 < n) = true := decide_eq_true h2
    go_enter Try.func30, Try.ntmps30
    go_upto_region 2 with (with_reducible refine step_alloc 26 zArr Try.zero26 rfl rfl ?_)
    generalize hW8 : ((w.alloc (.cells zArr 26)).alloc (.cells zArr 26)).setCells w.heap.size 0 (bArr zb).toList = v8 at *
    have HW8 := Lib.hid hW8
    clear hW8
    generalize hW : (w.alloc (.cells zArr 26)).alloc (.cells zArr 26) = v0 at *
    clear hW
    go_wp2_with (first | (refine step_load 26 _ (w.heap.size + 1) 0 (bArr zb) rfl rfl rfl HX.out.all _ Try.underlying26 rfl 48 Try.size26 (bArr_size zb_len) ?_) | (refine step_storeW 26 _ _ w.heap.size 0 (bArr zb) rfl rfl rfl rfl 48 (HR.out.allThere zArr_size) Try.size26 (bArr_size zb_len) (bArr_one _) HW8.out ?_))
    exact bodyPost_ret (v := .tuple #[.agg (bArr zb), .int .i64 1]) (ret_agg2 rfl _ _ _ _ _ _ _ rfl rfl HR8.out Try.underlying26 rfl 48 Try.size26 (bArr_size zb_len)) rfl ⟨rfl, HB8.out⟩
  · have d4 : decide (n < 0) = false := decide_eq_false (by omega)
    have d5 : decide (20000 < n) = false := decide_eq_false (by omega)
    go_enter Try.func30, Try.ntmps30
    go_upto_region 2 with (with_reducible refine step_alloc 26 zArr Try.zero26 rfl rfl ?_)
    generalize hW8 : ((w.alloc (.cells zArr 26)).alloc (.cells zArr 26)).setCells w.heap.size 0 (bArr zb).toList = v8 at *
    have HW8 := Lib.hid hW8
    clear hW8
    generalize hW : (w.alloc (.cells zArr 26)).alloc (.cells zArr 26) = v0 at *
    clear hW
    go_wp2_with (first | (refine step_load 26 _ (w.heap.size + 1) 0 (bArr zb) rfl rfl rfl HX.out.all _ Try.underlying26 rfl 48 Try.size26 (bArr_size zb_len) ?_) | (refine step_storeW 26 _ _ w.heap.size 0 (bArr zb) rfl rfl rfl rfl 48 (HR.out.allThere zArr_size) Try.size26 (bArr_size zb_len) (bArr_one _) HW8.out ?_))
    exact bodyPost_ret (v := .tuple #[.agg (bArr zb), .int .i64 1]) (ret_agg2 rfl _ _ _ _ _ _ _ rfl rfl HR8.out Try.underlying26 rfl 48 Try.size26 (bArr_size zb_len)) rfl ⟨rfl, HB8.out⟩
  · have d4 : decide (n < 0) = false := decide_eq_false (by omega)
    have d5 : decide (20000 < n) = false := decide_eq_false (by omega)
    have d1 : decide ((m : Int) < 1) = false := decide_eq_false (by omega)
    have d2 : decide (41 < (m : Int)) = true := decide_eq_true (by omega)
    go_enter Try.func30, Try.ntmps30
    go_upto_region 2 with (with_reducible refine step_alloc 26 zArr Try.zero26 rfl rfl ?_)
    generalize hW8 : ((w.alloc (.cells zArr 26)).alloc (.cells zArr 26)).setCells w.heap.size 0 (bArr zb).toList = v8 at *
    have HW8 := Lib.hid hW8
    clear hW8
    generalize hW : (w.alloc (.cells zArr 26)).alloc (.cells zArr 26) = v0 at *
    clear hW
    go_wp2_with (first | (refine step_load 26 _ (w.heap.size + 1) 0 (bArr zb) rfl rfl rfl HX.out.all _ Try.underlying26 rfl 48 Try.size26 (bArr_size zb_len) ?_) | (refine step_storeW 26 _ _ w.heap.size 0 (bArr zb) rfl rfl rfl rfl 48 (HR.out.allThere zArr_size) Try.size26 (bArr_size zb_len) (bArr_one _) HW8.out ?_))
    exact bodyPost_ret (v := .tuple #[.agg (bArr zb), .int .i64 1]) (ret_agg2 rfl _ _ _ _ _ _ _ rfl rfl HR8.out Try.underlying26 rfl 48 Try.size26 (bArr_size zb_len)) rfl ⟨rfl, HB8.out⟩
  · have d4 : decide (n < 0) = false := decide_eq_false (by omega)
    have d5 : decide (20000 < n) = false := decide_eq_false (by omega)
    have d1 : decide ((m : Int) < 1) = false := decide_eq_false (by omega)
    have d2 : decide (41 < (m : Int)) = false := decide_eq_false (by omega)
    have d3 : decide ((m : Int) < 41) = true := decide_eq_true (by omega)
    go_enter Try.func30, Try.ntmps30
    go_upto_region 2 with (with_reducible refine step_alloc 26 zArr Try.zero26 rfl rfl ?_)
    generalize hW8 : ((w.alloc (.cells zArr 26)).alloc (.cells zArr 26)).setCells w.heap.size 0 (bArr zb).toList = v8 at *
    have HW8 := Lib.hid hW8
    clear hW8
    generalize hW : (w.alloc (.cells zArr 26)).alloc (.cells zArr 26) = v0 at *
    clear hW
    go_wp2_with (first | (refine step_load 26 _ (w.heap.size + 1) 0 (bArr zb) rfl rfl rfl HX.out.all _ Try.underlying26 rfl 48 Try.size26 (bArr_size zb_len) ?_) | (refine step_storeW 26 _ _ w.heap.size 0 (bArr zb) rfl rfl rfl rfl 48 (HR.out.allThere zArr_size) Try.size26 (bArr_size zb_len) (bArr_one _) HW8.out ?_))
    exact bodyPost_ret (v := .tuple #[.agg (bArr zb), .int .i64 1]) (ret_agg2 rfl _ _ _ _ _ _ _ rfl rfl HR8.out Try.underlying26 rfl 48 Try.size26 (bArr_size zb_len)) rfl ⟨rfl, HB8.out⟩

set_option maxRecDepth 100000 in
set_option maxHeartbeats 2000000 in
theorem refPage_bad (n : Int) (first last : Bool) (A : Option Addr) (m cap : Nat) (w : World) (h : badPage n last m) :
    Calls Try.prog 31 #[.int .i64 n, .bool first, .bool last, .slice A m cap] w fun e w' => e = .returned (.tuple #[.agg (bArr zb), .int .i64 1]) ∧ Below w.heap.size w w' := by
  have hR : Blk ((w.alloc (.cells zArr 26)).alloc (.cells zArr 26)) w.heap.size 26 zArr := (Blk.new w 26 _).alloc _
  have hX : Blk ((w.alloc (.cells zArr 26)).alloc (.cells zArr 26)) (w.heap.size + 1) 26 (bArr zb) := Blk.new1 w _ 26 _
  have hL : Below w.heap.size w ((w.alloc (.cells zArr 26)).alloc (.cells zArr 26)) := ((Below.refl _ _).alloc (Nat.le_refl _) _).alloc (by simp) _
  have hR8 : Blk (((w.alloc (.cells zArr 26)).alloc (.cells zArr 26)).setCells w.heap.size 0 (bArr zb).toList) w.heap.size 26 (bArr zb) := hR.overwrite rfl
  have hB8 : Below w.heap.size w (((w.alloc (.cells zArr 26)).alloc (.cells zArr 26)).setCells w.heap.size 0 (bArr zb).toList) := hL.trans ((Off.refl w.heap.size w.heap.size _).setCells (.inl rfl) _ _ |>.below (Nat.le_refl _) (Nat.le_refl _) (by simp; omega))
  have HR := Lib.hid hR
  have HX := Lib.hid hX
  have HR8 := Lib.hid hR8
  have HB8 := Lib.hid hB8
  clear hR hX hL hR8 hB8
  rcases h with h1 | ⟨h1, h2⟩ | ⟨h1, h2, rfl⟩ | ⟨h1, h2, h3⟩ | ⟨h1, h2, h3, h4, rfl⟩
  · have d4 : decide (n < 0) = true := decide_eq_true h1
    go_enter Try.func31, Try.ntmps31
    go_upto_region 2 with (with_reducible refine step_alloc 26 zArr Try.zero26 rfl rfl ?_)
    generalize hW8 : ((w.alloc (.cells zArr 26)).alloc (.cells zArr 26)).setCells w.heap.size 0 (bArr zb).toList = v8 at *
    have HW8 := Lib.hid hW8
    clear hW8
    generalize hW : (w.alloc (.cells zArr 26)).alloc (.cells zArr 26) = v0 at *
    clear hW
    go_wp2_with (first | (refine step_load 26 _ (w.heap.size + 1) 0 (bArr zb) rfl rfl rfl HX.out.all _ Try.underlying26 rfl 48 Try.size26 (bArr_size zb_len) ?_) | (refine step_storeW 26 _ _ w.heap.size 0 (bArr zb) rfl rfl rfl rfl 48 (HR.out.allThere zArr_size) Try.size26 (bArr_size zb_len) (bArr_one _) HW8.out ?_))
    exact bodyPost_ret (v := .tuple #[.agg (bArr zb), .int .i64 1]) (ret_agg2 rfl _ _ _ _ _ _ _ rfl rfl HR8.out Try.underlying26 rfl 48 Try.size26 (bArr_size zb_len)) rfl ⟨rfl, HB8.out⟩
  · have d4 : decide (n < 0) = false := decide_eq_false (by omega)
    have d5 : decide (20000 < n) = true := decide_eq_true h2
    go_enter Try.func31, Try.ntmps31
    go_upto_region 2 with (with_reducible refine step_alloc 26 zArr Try.zero26 rfl rfl ?_)
    generalize hW8 : ((w.alloc (.cells zArr 26)).alloc (.cells zArr 26)).setCells w.heap.size 0 (bArr zb).toList = v8 at *
    have HW8 := Lib.hid hW8
    clear hW8
    generalize hW : (w.alloc (.cells zArr 26)).alloc (.cells zArr 26) = v0 at *
    clear hW
    go_wp2_with (first | (refine step_load 26 _ (w.heap.size + 1) 0 (bArr zb) rfl rfl rfl HX.out.all _ Try.underlying26 rfl 48 Try.size26 (bArr_size zb_len) ?_) | (refine step_storeW 26 _ _ w.heap.size 0 (bArr zb) rfl rfl rfl rfl 48 (HR.out.allThere zArr_size) Try.size26 (bArr_size zb_len) (bArr_one _) HW8.out ?_))
    exact bodyPost_ret (v := .tuple #[.agg (bArr zb), .int .i64 1]) (ret_agg2 rfl _ _ _ _ _ _ _ rfl rfl HR8.out Try.underlying26 rfl 48 Try.size26 (bArr_size zb_len)) rfl ⟨rfl, HB8.out⟩
  · have d4 : decide (n < 0) = false := decide_eq_false (by omega)
    have d5 : decide (20000 < n) = false := decide_eq_false (by omega)
    go_enter Try.func31, Try.ntmps31
    go_upto_region 2 with (with_reducible refine step_alloc 26 zArr Try.zero26 rfl rfl ?_)
    generalize hW8 : ((w.alloc (.cells zArr 26)).alloc (.cells zArr 26)).setCells w.heap.size 0 (bArr zb).toList = v8 at *
    have HW8 := Lib.hid hW8
    clear hW8
    generalize hW : (w.alloc (.cells zArr 26)).alloc (.cells zArr 26) = v0 at *
    clear hW
    go_wp2_with (first | (refine step_load 26 _ (w.heap.size + 1) 0 (bArr zb) rfl rfl rfl HX.out.all _ Try.underlying26 rfl 48 Try.size26 (bArr_size zb_len) ?_) | (refine step_storeW 26 _ _ w.heap.size 0 (bArr zb) rfl rfl rfl rfl 48 (HR.out.allThere zArr_size) Try.size26 (bArr_size zb_len) (bArr_one _) HW8.out ?_))
    exact bodyPost_ret (v := .tuple #[.agg (bArr zb), .int .i64 1]) (ret_agg2 rfl _ _ _ _ _ _ _ rfl rfl HR8.out Try.underlying26 rfl 48 Try.size26 (bArr_size zb_len)) rfl ⟨rfl, HB8.out⟩
  · have d4 : decide (n < 0) = false := decide_eq_false (by omega)
    have d5 : decide (20000 < n) = false := decide_eq_false (by omega)
    have d1 : decide ((m : Int) < 1) = false := decide_eq_false (by omega)
    have d2 : decide (41 < (m : Int)) = true := decide_eq_true (by omega)
    go_enter Try.func31, Try.ntmps31
    go_upto_region 2 with (with_reducible refine step_alloc 26 zArr Try.zero26 rfl rfl ?_)
    generalize hW8 : ((w.alloc (.cells zArr 26)).alloc (.cells zArr 26)).setCells w.heap.size 0 (bArr zb).toList = v8 at *
    have HW8 := Lib.hid hW8
    clear hW8
    generalize hW : (w.alloc (.cells zArr 26)).alloc (.cells zArr 26) = v0 at *
    clear hW
    go_wp2_with (first | (refine step_load 26 _ (w.heap.size + 1) 0 (bArr zb) rfl rfl rfl HX.out.all _ Try.underlying26 rfl 48 Try.size26 (bArr_size zb_len) ?_) | (refine step_storeW 26 _ _ w.heap.size 0 (bArr zb) rfl rfl rfl rfl 48 (HR.out.allThere zArr_size) Try.size26 (bArr_size zb_len) (bArr_one _) HW8.out ?_))
    exact bodyPost_ret (v := .tuple #[.agg (bArr zb), .int .i64 1]) (ret_agg2 rfl _ _ _ _ _ _ _ rfl rfl HR8.out Try.underlying26 rfl 48 Try.size26 (bArr_size zb_len)) rfl ⟨rfl, HB8.out⟩
  · have d4 : decide (n < 0) = false := decide_eq_false (by omega)
    have d5 : decide (20000 < n) = false := decide_eq_false (by omega)
    have d1 : decide ((m : Int) < 1) = false := decide_eq_false (by omega)
    have d2 : decide (41 < (m : Int)) = false := decide_eq_false (by omega)
    have d3 : decide ((m : Int) < 41) = true := decide_eq_true (by omega)
    go_enter Try.func31, Try.ntmps31
    go_upto_region 2 with (with_reducible refine step_alloc 26 zArr Try.zero26 rfl rfl ?_)
    generalize hW8 : ((w.alloc (.cells zArr 26)).alloc (.cells zArr 26)).setCells w.heap.size 0 (bArr zb).toList = v8 at *
    have HW8 := Lib.hid hW8
    clear hW8
    generalize hW : (w.alloc (.cells zArr 26)).alloc (.cells zArr 26) = v0 at *
    clear hW
    go_wp2_with (first | (refine step_load 26 _ (w.heap.size + 1) 0 (bArr zb) rfl rfl rfl HX.out.all _ Try.underlying26 rfl 48 Try.size26 (bArr_size zb_len) ?_) | (refine step_storeW 26 _ _ w.heap.size 0 (bArr zb) rfl rfl rfl rfl 48 (HR.out.allThere zArr_size) Try.size26 (bArr_size zb_len) (bArr_one _) HW8.out ?_))
    exact bodyPost_ret (v := .tuple #[.agg (bArr zb), .int .i64 1]) (ret_agg2 rfl _ _ _ _ _ _ _ rfl rfl HR8.out Try.underlying26 rfl 48 Try.size26 (bArr_size zb_len)) rfl ⟨rfl, HB8.out⟩
end Go.Proofs.Ytdjkkpefljapcaa
