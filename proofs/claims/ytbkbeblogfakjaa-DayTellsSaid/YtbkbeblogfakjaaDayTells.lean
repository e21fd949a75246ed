/- The walk of the law DayTells: it returns true, and turns nothing that was there. -/
import Derived.Test.YtbkbeblogfakjaaDayRef
import Derived.Test.YtbkbeblogfakjaaDayDate
import Derived.Test.YtbkbeblogfakjaaLater
import Derived.OpenShut
namespace Go.Proofs.Ytbkbeblogfakjaa
open Go.RowKit
set_option linter.unusedVariables false
set_option linter.unusedSimpArgs false

set_option maxRecDepth 100000 in
set_option maxHeartbeats 1000000 in
theorem dayTells_walk (y m d n : Int) (w : World) : Calls Try.prog 7 #[.agg #[.int .i64 y, .int .i64 m, .int .i64 d], .int .i64 n] w fun e w' => e = .returned (.bool true) ∧ Below w.heap.size w w' := by
  have hx0 : (y == y) = true := by simp
  generalize hn : Cal.numR y m d = nr
  obtain ⟨nv, ne⟩ := nr
  generalize hd : Cal.dateR n = dr
  obtain ⟨⟨dy, dm, dd⟩, de⟩ := dr
  have HN := Lib.hid hn
  have HD := Lib.hid hd
  clear hn hd
  have hb0 := (Below.refl w.heap.size w).alloc (Nat.le_refl _) (.cells (dcells y m d) 27)
  go_enter Try.func7, Try.ntmps7
  go_wp2_with fail
  refine (number_any y m d _).mono ?_
  rintro e w1 ⟨rfl, hb1⟩
  rw [HN.out]
  have hblk1 : Blk w1 w.heap.size 27 (dcells y m d) := (Blk.new w _ _).below hb1 (by simp)
  have hbel1 : Below w.heap.size w w1 := hb0.trans (hb1.mono (by simp))
  have c0 := dcell0 hblk1
  have c1 := dcell1 hblk1
  have c2 := dcell2 hblk1
  clear hb0 hb1
  have HB1 := Lib.hid hblk1
  clear hblk1
  go_wp2_with fail
  refine (refNumber_any y m d _).mono ?_
  rintro e w2 ⟨rfl, hb2⟩
  rw [HN.out]
  have hblk2 := HB1.out.below hb2 HB1.out.lt
  have hbel2 := hbel1.trans (hb2.mono hbel1.size)
  clear hb2 hbel1 c0 c1 c2 HB1
  have HB2 := Lib.hid hblk2
  clear hblk2
  go_wp2_with fail
  refine (date_any n _).mono ?_
  rintro e w3 ⟨rfl, hb3⟩
  rw [HD.out]
  have hblk3 := HB2.out.below hb3 HB2.out.lt
  have hbel3 := hbel2.trans (hb3.mono hbel2.size)
  clear hb3 hbel2 HB2
  have HB3 := Lib.hid hblk3
  clear hblk3
  have hbel3' := hbel3.alloc hbel3.size (.cells (dcells dy dm dd) 27)
  have hblk3' : Blk (w3.alloc (.cells (dcells dy dm dd) 27)) w.heap.size 27 (dcells y m d) := HB3.out.alloc _
  have hblk9 := Blk.new w3 27 (dcells dy dm dd)
  have HX := Lib.hid hblk3'
  have HY := Lib.hid hblk9
  clear hbel3 HB3 hblk3' hblk9
  go_wp2_with fail
  refine (refDate_any n _).mono ?_
  rintro e w4 ⟨rfl, hb4⟩
  rw [HD.out]
  have hbel4 := hbel3'.trans (hb4.mono hbel3'.size)
  have hblkA := (HX.out.below hb4 HX.out.lt).alloc (.cells (dcells dy dm dd) 27)
  have hblkB := (HY.out.below hb4 HY.out.lt).alloc (.cells (dcells dy dm dd) 27)
  have hblkC := Blk.new w4 27 (dcells dy dm dd)
  have hbelA := hbel4.alloc hbel4.size (.cells (dcells dy dm dd) 27)
  clear hb4 hbel3' HX HY hbel4
  have HA := Lib.hid hblkA
  have HB := Lib.hid hblkB
  have HC := Lib.hid hblkC
  have HL := Lib.hid hbelA
  clear hblkA hblkB hblkC hbelA
  go_wp2_with fail
  change Code.wp _ _ _ _ (w4.alloc (.cells (dcells dy dm dd) 27))
  generalize w4.alloc (.cells (dcells dy dm dd) 27) = W at *
  generalize w3.heap.size = g9 at *
  generalize w4.heap.size = g11 at *
  have c0 : ∀ x : Later W.heap.size W, x.w.cell? ⟨w.heap.size, 0, none⟩ = some (.int .i64 y) := fun x => x.cell HA.out.lt (dcell0 HA.out)
  have c1 : ∀ x : Later W.heap.size W, x.w.cell? ⟨w.heap.size, 1, none⟩ = some (.int .i64 m) := fun x => x.cell HA.out.lt (dcell1 HA.out)
  have c2 : ∀ x : Later W.heap.size W, x.w.cell? ⟨w.heap.size, 2, none⟩ = some (.int .i64 d) := fun x => x.cell HA.out.lt (dcell2 HA.out)
  have e0 : ∀ x : Later W.heap.size W, x.w.cell? ⟨g9, 0, none⟩ = some (.int .i64 dy) := fun x => x.cell HB.out.lt (dcell0 HB.out)
  have e1 : ∀ x : Later W.heap.size W, x.w.cell? ⟨g9, 1, none⟩ = some (.int .i64 dm) := fun x => x.cell HB.out.lt (dcell1 HB.out)
  have e2 : ∀ x : Later W.heap.size W, x.w.cell? ⟨g9, 2, none⟩ = some (.int .i64 dd) := fun x => x.cell HB.out.lt (dcell2 HB.out)
  have f0 : ∀ x : Later W.heap.size W, x.w.cell? ⟨g11, 0, none⟩ = some (.int .i64 dy) := fun x => x.cell HC.out.lt (dcell0 HC.out)
  have f1 : ∀ x : Later W.heap.size W, x.w.cell? ⟨g11, 1, none⟩ = some (.int .i64 dm) := fun x => x.cell HC.out.lt (dcell1 HC.out)
  have f2 : ∀ x : Later W.heap.size W, x.w.cell? ⟨g11, 2, none⟩ = some (.int .i64 dd) := fun x => x.cell HC.out.lt (dcell2 HC.out)
  clear HN HD HA HB HC hx0
  refine wp_region_later W.heap.size (by kernel_rfl) (by kernel_rfl) ?_
  repeat (go_big_quiet_step (first
    | (go_at_call 16; exact later_below (Nat.le_refl _) (awake02 _))
    | (go_at_call 17; exact later_same (weekday_any _ _))
    | (go_at_call 22; exact later_same (refWeekday_any _ _))
    | (go_at_call 23; exact later_same (leap_any _ _))
    | (go_at_call 24; exact later_same (refLeap_any _ _))
    | (go_at_call 15; exact later_same (length_any _ _ _))
    | (go_at_call 25; exact later_same (refLength_any _ _ _))))
  refine wpQuiet_nil ?_
  intro _ hw'
  obtain ⟨x, rfl⟩ := hw'
  go_wp2
  go_ret
  exact ⟨rfl, HL.out.trans (x.below.mono HL.out.size)⟩
end Go.Proofs.Ytbkbeblogfakjaa
