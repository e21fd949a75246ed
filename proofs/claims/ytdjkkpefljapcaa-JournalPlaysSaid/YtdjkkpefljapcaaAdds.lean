/- Where Add adds nothing: no journal; down; no bytes; no room. Open at nil. -/
import Derived.Test.YtdjkkpefljapcaaAwk
namespace Go.Proofs.Ytdjkkpefljapcaa
open Go.RowKit
set_option linter.unusedVariables false
set_option linter.unusedSimpArgs false

set_option maxRecDepth 100000 in
theorem open_nil (w : World) : Calls Try.prog 36 #[.pointer none] w fun e w' => e = .returned (.tuple #[.pointer none, .int .i64 2]) ∧ w = w' := by
  go_enter Try.func36, Try.ntmps36
  go_wp2
  exact bodyPost_ret (v := .tuple #[.pointer none, .int .i64 2]) (by simp [results, Try.results36s, go_sem]) rfl ⟨rfl, rfl⟩

theorem ret37 {w : World} {b : Nat} {tmps : Array Value} {n : Int} (h : tmps.getD 4 undef = .pointer (some ⟨b, 0, none⟩)) (hb : Blk w b 29 #[.int .i64 n]) : (results Try.f37 tmps).run Try.prog w = .ok (.int .i64 n) w := by
  have hc : w.cell? ⟨b, 0, none⟩ = some (.int .i64 n) := by rw [hb.cell]; rfl
  have hr : Try.f37.results = #[.cell 4 29] := by kernel_rfl
  have h' : tmps[4]?.getD undef = .pointer (some ⟨b, 0, none⟩) := by simpa using h
  simp [results, hr, h', go_sem, hc]

set_option maxRecDepth 100000 in
theorem add_nil (A : Option Addr) (n c : Nat) (w : World) : Calls Try.prog 37 #[.pointer none, .slice A n c] w fun e w' => e = .returned (.int .i64 2) ∧ Below w.heap.size w w' := by
  have HB1 := Lib.hid (show Blk ((w.alloc (.cells #[.pointer none] 54)).alloc (.cells #[.int .i64 2] 29)) (w.heap.size + 1) 29 #[.int .i64 2] from Blk.new1 w _ 29 _)
  have HB := Lib.hid (show Below w.heap.size w ((w.alloc (.cells #[.pointer none] 54)).alloc (.cells #[.int .i64 2] 29)) from ((Below.refl _ _).alloc (Nat.le_refl _) _).alloc (by simp) _)
  go_enter Try.func37, Try.ntmps37
  go_wp2_with fail
  refine (up_nil _).mono ?_
  rintro e w1 ⟨rfl, rfl⟩
  go_wp2_with fail
  exact bodyPost_ret (v := .int .i64 2) (ret37 rfl HB1.out) rfl ⟨rfl, HB.out⟩

/-- The two boxes that Add begins with. -/
theorem add_boxes (w : World) (v : Value) : Blk ((w.alloc (.cells #[v] 54)).alloc (.cells #[.int .i64 0] 29)) w.heap.size 54 #[v] ∧ Blk ((w.alloc (.cells #[v] 54)).alloc (.cells #[.int .i64 0] 29)) (w.heap.size + 1) 29 #[.int .i64 0] ∧ Below w.heap.size w ((w.alloc (.cells #[v] 54)).alloc (.cells #[.int .i64 0] 29)) :=
  ⟨(Blk.new w 54 _).alloc _, Blk.new1 w _ 29 _, ((Below.refl _ _).alloc (Nat.le_refl _) _).alloc (by simp) _⟩

section
variable {w : World} {base g h j : Nat} {v : Value} {J : Jn} {p : Pd}
set_option maxRecDepth 100000 in
theorem add_down (A : Option Addr) (n c : Nat) (a : JouAt w base g j v J) (hp : PadAt w g h p) (hd : p.down = true) : Calls Try.prog 37 #[.pointer (some ⟨j, 0, none⟩), .slice A n c] w fun e w' => e = .returned (.int .i64 15) ∧ Below w.heap.size w w' := by
  obtain ⟨b0, b1, hb⟩ := add_boxes w (.pointer (some ⟨j, 0, none⟩))
  have HUP := Lib.hid (up_down (a.below hb) (hp.below hb) hd)
  have HB1 := Lib.hid b1
  have HB := Lib.hid hb
  have hj := a.head.lt
  clear b0 b1 hb a hp
  go_enter Try.func37, Try.ntmps37
  go_wp2_with fail
  refine HUP.out.mono ?_
  rintro e w1 ⟨rfl, hq⟩
  have hb1 := hq.blk HB1.out
  have f1 := hb1.frozen 0
  have c1 : w1.cell? ⟨w.heap.size + 1, 0, none⟩ = some (.int .i64 0) := by rw [hb1.cell]; rfl
  have HR := Lib.hid (hb1.set_ 0 (.int .i64 15))
  have HL := Lib.hid (HB.out.trans (hq.below _))
  clear hb1 hq HUP HB1 HB
  go_wp2_with fail
  exact bodyPost_ret (v := .int .i64 15) (ret37 rfl HR.out) rfl ⟨rfl, HL.out.setCell (by simp) _⟩
set_option maxRecDepth 100000 in
theorem add_empty (A : Option Addr) (c : Nat) (a : JouAt w base g j v J) (hp : PadAt w g h p) (hd : p.down = false) (hf : p.falls = J.falls) : Calls Try.prog 37 #[.pointer (some ⟨j, 0, none⟩), .slice A 0 c] w fun e w' => e = .returned (.int .i64 1) ∧ Below w.heap.size w w' := by
  obtain ⟨b0, b1, hb⟩ := add_boxes w (.pointer (some ⟨j, 0, none⟩))
  have HUP := Lib.hid (up_ok (a.below hb) (hp.below hb) hd hf)
  have HB1 := Lib.hid b1
  have HB := Lib.hid hb
  clear b0 b1 hb a hp
  go_enter Try.func37, Try.ntmps37
  go_wp2_with fail
  refine HUP.out.mono ?_
  rintro e w1 ⟨rfl, hq⟩
  have hb1 := hq.blk HB1.out
  have f1 := hb1.frozen 0
  have c1 : w1.cell? ⟨w.heap.size + 1, 0, none⟩ = some (.int .i64 0) := by rw [hb1.cell]; rfl
  have HR := Lib.hid (hb1.set_ 0 (.int .i64 1))
  have HL := Lib.hid (HB.out.trans (hq.below _))
  clear hb1 hq HUP HB1 HB
  go_wp2_with fail
  exact bodyPost_ret (v := .int .i64 1) (ret37 rfl HR.out) rfl ⟨rfl, HL.out.setCell (by simp) _⟩
set_option maxRecDepth 100000 in
theorem add_full (A : Option Addr) (n c : Nat) (a : JouAt w base g j v J) (hp : PadAt w g h p) (hd : p.down = false) (hf : p.falls = J.falls) (h1 : 1 ≤ n) (h2 : n ≤ 100000) (hr : p.l.length < J.used + (n + 40) / 41) : Calls Try.prog 37 #[.pointer (some ⟨j, 0, none⟩), .slice A n c] w fun e w' => e = .returned (.int .i64 14) ∧ Below w.heap.size w w' := by
  obtain ⟨b0, b1, hb⟩ := add_boxes w (.pointer (some ⟨j, 0, none⟩))
  have HUP := Lib.hid (up_ok (a.below hb) (hp.below hb) hd hf)
  have HB0 := Lib.hid b0
  have HB1 := Lib.hid b1
  have HB := Lib.hid hb
  have HA := Lib.hid (a.below hb)
  have HP := Lib.hid (hp.below hb)
  obtain ⟨r, hr0⟩ : ∃ r : Nat, (n - 1) / 41 = r := ⟨_, rfl⟩
  have hr1 : ((n : Int) - 1) / 41 = (r : Int) := by omega
  have hge : ((p.l.length : Nat) : Int) ≤ (J.used : Int) + (r : Int) := by omega
  have hus := a.used
  clear b0 b1 hb a hp hr0 hr
  go_enter Try.func37, Try.ntmps37
  go_wp2_with fail
  refine HUP.out.mono ?_
  rintro e w1 ⟨rfl, hq⟩
  have hb1 := hq.blk HB1.out
  have hb0 := hq.blk HB0.out
  have hs1 : w1.heap.size = w.heap.size + 2 := by rw [hq.size]; simp
  have HA1 := Lib.hid (HA.out.below (hq.below _))
  have HP1 := Lib.hid (HP.out.below (hq.below _))
  have HL := Lib.hid (HB.out.trans (hq.below _))
  have HB01 := Lib.hid hb0
  have HB11 := Lib.hid hb1
  have HS1 := Lib.hid hs1
  have e1 : w1.cell? ⟨w.heap.size, 0, none⟩ = some (.pointer (some ⟨j, 0, none⟩)) := by rw [hb0.cell]; rfl
  have e2 := HA1.out.c3
  clear hb1 hb0 hq HUP HB1 HB0 HB HA HP hs1
  go_wp2_with fail
  have hL2 : Below w1.heap.size w1 (w1.alloc (.cells #[.int .i64 ((J.used : Int) + (r : Int))] 3)) := (Below.refl _ _).alloc (Nat.le_refl _) _
  have HP2 := Lib.hid (HP1.out.below hL2)
  have HA2 := Lib.hid (HA1.out.below hL2)
  have HB02 := Lib.hid (HB01.out.below hL2 HB01.out.lt)
  have HB12 := Lib.hid (HB11.out.below hL2 HB11.out.lt)
  have HB22 := Lib.hid (Blk.new w1 3 #[.int .i64 ((J.used : Int) + (r : Int))])
  have HBW2 := Lib.hid (HL.out.trans (hL2.mono (by rw [HS1.out]; omega)))
  clear hL2 HP1 HA1 HB01 HB11 HL e1 e2 HS1
  generalize hW2 : w1.alloc (.cells #[.int .i64 ((J.used : Int) + (r : Int))] 3) = w2 at *
  clear hW2
  have e1 : w2.cell? ⟨w.heap.size, 0, none⟩ = some (.pointer (some ⟨j, 0, none⟩)) := by rw [HB02.out.cell]; rfl
  have e2 := HA2.out.c3
  have e3 := HA2.out.c0
  have e4 : w2.cell? ⟨w1.heap.size, 0, none⟩ = some (.int .i64 ((J.used : Int) + (r : Int))) := by rw [HB22.out.cell]; rfl
  go_quiet ((go_at_call 17; exact quiet_same (len_any (HP2.out.drewN _))))
  have f1 := HB12.out.frozen 0
  have c1 : w2.cell? ⟨w.heap.size + 1, 0, none⟩ = some (.int .i64 0) := by rw [HB12.out.cell]; rfl
  have HR := Lib.hid ((HB12.out.drewN nq).set_ 0 (.int .i64 14))
  go_wp2_with fail
  exact bodyPost_ret (v := .int .i64 14) (ret37 rfl HR.out) rfl ⟨rfl, (HBW2.out.trans ((Quiet.drewN w2 nq).below _)).setCell (by simp) _⟩
end

/-! ### JournalNil -/
set_option maxRecDepth 100000 in
set_option maxHeartbeats 1000000 in
theorem journalNil_walk (A : Option Addr) (len cap : Nat) (z : List Int) (w : World) (w0 : IsRow .u8 w A len cap z) :
    Calls Try.prog 10 #[.slice A len cap] w fun e w' => e = .returned (.bool true) ∧ Below w.heap.size w w' := by
  by_cases hl : len ≤ 500
  · go_enter Try.func10, Try.ntmps10
    go_wp2_with fail
    refine (open_nil _).mono ?_
    rintro e w1 ⟨rfl, rfl⟩
    go_wp2_with fail
    refine (awake24 _).mono ?_
    rintro e w1 ⟨rfl, hb1⟩
    have HB1 := Lib.hid hb1
    clear hb1
    go_wp2_with fail
    refine (add_nil A len cap _).mono ?_
    rintro e w2 ⟨rfl, hb2⟩
    have HB2 := Lib.hid (HB1.out.trans (hb2.mono HB1.out.size))
    clear hb2
    go_wp2_with fail
    refine (records_nil _).mono ?_
    rintro e w3 ⟨rfl, rfl⟩
    go_wp2_with fail
    refine (used_nil _).mono ?_
    rintro e w3 ⟨rfl, rfl⟩
    go_wp2_with fail
    go_ret
    exact ⟨rfl, HB2.out⟩
  · go_enter Try.func10, Try.ntmps10
    go_wp2_with fail
    refine (awake24 _).mono ?_
    rintro e w1 ⟨rfl, hb1⟩
    have HB1 := Lib.hid hb1
    clear hb1
    go_wp2_with fail
    go_ret
    exact ⟨rfl, HB1.out⟩
end Go.Proofs.Ytdjkkpefljapcaa
