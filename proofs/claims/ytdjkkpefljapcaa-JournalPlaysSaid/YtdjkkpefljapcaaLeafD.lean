/- The contracts of Pad.Wet, Dry, Drop, Mend, Blot, Leaf. -/
import Derived.Test.YtdjkkpefljapcaaLeafC
import Derived.Laws.ResultCell
namespace Go.Proofs.Ytdjkkpefljapcaa
open Go.RowKit
set_option linter.unusedVariables false
set_option linter.unusedSimpArgs false

/-- Each wet leaf is turned by f. -/
theorem each_map (g h : Nat) (p : Pd) (fn : FuncId) (caps : Array Value) (f : Nat → Lf → Lf) (w : World) (hcf : ∀ (args : Array Value) (w : World), (callFunc fn args).run Try.prog w = .ok (.enter fn args) w) (hp : PadAt w g h p)
    (hc : ∀ n q w', q.l.length = p.l.length → n < q.l.length → wetN (p.l.take n) ≤ 20000 → Off g h w w' → PadAt w' g h q → Calls Try.prog fn (#[.int .i64 (wetN (p.l.take n)), .pointer (some ⟨h, n * 49, none⟩)] ++ caps) w' fun e w'' => e = .returned (.tuple #[]) ∧ PadAt w'' g h (q.put n (f (wetN (p.l.take n)) (q.at n))) ∧ Off g h w' w'') :
    Calls Try.prog 46 #[.pointer (some ⟨g, 0, none⟩), .func (.func fn) #[] caps] w fun e w' => e = .returned (.tuple #[]) ∧ PadAt w' g h { p with l := eachL f 0 p.l } ∧ Off g h w w' := by
  have hlen := hp.len
  refine (each_any g h p fn caps (fun n i w' => PadAt w' g h { p with l := doneL f p.l n } ∧ Off g h w w') w hlen hcf ?_ ?_ ?_ ?_).mono ?_
  · exact ⟨by rw [doneL_zero]; exact hp, Off.refl _ _ _⟩
  · rintro n w' hn ⟨h1, h2⟩
    refine ⟨?_, fun hlt => ?_⟩
    · have := h1.c0
      simpa only [doneL_length] using this
    · have := h1.is_ (n := n) (by simpa only [doneL_length] using hlt)
      simpa only [doneL_at f p.l n hlt] using this
  · rintro n w' hn hd ⟨h1, h2⟩
    rw [(doneL_dry f p.l n hn hd).1]
    exact ⟨h1, h2⟩
  · rintro n w' hn hd ⟨h1, h2⟩
    have hw := wetN_le (p.l.take n)
    rw [List.length_take] at hw
    refine (hc n _ w' (by simp only [doneL_length]) (by simpa only [doneL_length] using hn) (by omega) h2 h1).mono ?_
    rintro e w'' ⟨rfl, h3, h4⟩
    refine ⟨rfl, ?_, h2.trans h4⟩
    have := (doneL_wet f p.l n hn hd).1
    simp only [Pd.put, Pd.at, doneL_at f p.l n hn] at h3
    rw [this]
    exact h3
  · rintro e w' ⟨rfl, h1, h2⟩
    rw [doneL_all] at h1
    exact ⟨rfl, h1, h2⟩

section
variable {w : World} {g h : Nat} {p : Pd}
set_option maxRecDepth 100000 in
theorem wet_any (a : PadAt w g h p) : Calls Try.prog 21 #[.pointer (some ⟨g, 0, none⟩)] w fun e w' => e = .returned (.int .i64 (wetN p.l)) ∧ Below w.heap.size w w' := by
  have hlt := a.lt
  have hmf : ∀ (fn : Fn) (first cap : Array Value) (w : World), (Instr.makeFunc fn first cap).run Try.prog w = .ok (.func fn first cap) w := fun _ _ _ _ => rfl
  have key : ∀ v : World, v = (w.alloc (.cells #[.int .i64 0] 3)) → Calls Try.prog 46 #[.pointer (some ⟨g, 0, none⟩), .func (.func 47) #[] #[.pointer (some ⟨w.heap.size, 0, none⟩)]] v fun e w' => e = .returned (.tuple #[]) ∧ Blk w' w.heap.size 3 #[.int .i64 (wetN p.l)] ∧ Below w.heap.size w w' := by
    intro v hv
    have hb := Blk.new w 3 #[.int .i64 0]
    have hp := a.alloc (.cells #[.int .i64 0] 3)
    have hbel := (Below.refl w.heap.size w).alloc (Nat.le_refl _) (.cells #[.int .i64 0] 3)
    rw [← hv] at hb hp hbel
    refine (each_any g h p 47 #[.pointer (some ⟨w.heap.size, 0, none⟩)] (fun n i w' => Blk w' w.heap.size 3 #[.int .i64 i] ∧ PadAt w' g h p ∧ Below w.heap.size w w') v a.len enters47 ?_ ?_ ?_ ?_).mono ?_
    · exact ⟨hb, hp, hbel⟩
    · rintro n w' hn ⟨_, h1, _⟩
      exact ⟨h1.c0, fun hlt => h1.is_ hlt⟩
    · rintro n w' hn hd h1
      exact h1
    · rintro n w' hn hd ⟨h0, h1, h2⟩
      have hw := wetN_le (p.l.take n)
      rw [List.length_take] at hw
      have := a.len
      refine (wetC_any (wetN (p.l.take n)) (wetN (p.l.take n)) w.heap.size _ w' h0 (by omega)).mono ?_
      rintro e w'' ⟨rfl, h3, h4⟩
      exact ⟨rfl, h3, h1.off h4 (by omega) (by omega) (by omega) (by omega), h2.trans (h4.below (Nat.le_refl _) (Nat.le_refl _) h2.size)⟩
    · rintro e w' ⟨rfl, h1, h2, h3⟩
      exact ⟨rfl, h1, h3⟩
  clear hlt
  go_enter Try.func21, Try.ntmps21
  go_wp2_with fail
  refine (key _ rfl).mono ?_
  rintro e w2 ⟨rfl, h1, h2⟩
  have c0 : w2.cell? ⟨w.heap.size, 0, none⟩ = some (.int .i64 (wetN p.l)) := by rw [h1.cell]; rfl
  clear key
  go_wp2_with fail
  go_ret
  exact ⟨rfl, h2⟩
set_option maxRecDepth 100000 in
theorem wet_nil (w : World) : Calls Try.prog 21 #[.pointer none] w fun e w' => e = .returned (.int .i64 0) ∧ Below w.heap.size w w' := by
  go_enter Try.func21, Try.ntmps21
  go_wp2_with fail
  go_ret
  exact ⟨rfl, (Below.refl _ _).alloc (Nat.le_refl _) _⟩

theorem stroke_l (p : Pd) : p.stroke.l = p.l := by
  unfold Pd.stroke
  split
  · rfl
  · split <;> rfl

set_option maxRecDepth 100000 in
theorem dry_up (a : PadAt w g h p) (hf : p.falls < 1000000000) (hd : p.down = false) (hs : p.snag ≠ 1) : Calls Try.prog 22 #[.pointer (some ⟨g, 0, none⟩)] w fun e w' => e = .returned (.int .i64 0) ∧ PadAt w' g h p.stroke.dry ∧ Off g h w w' := by
  have hs' : decide (p.snag = 1) = false := by simpa using hs
  have HA := Lib.hid a
  clear a
  go_enter Try.func22, Try.ntmps22
  go_wp2_with fail
  refine (ready_up HA.out hd).mono ?_
  rintro e w1 ⟨rfl, rfl⟩
  go_wp2_with fail
  refine (stroke_any HA.out hf hd).mono ?_
  rintro e w1 ⟨rfl, hp, ho⟩
  rw [hs']
  have HP := Lib.hid hp
  have HO := Lib.hid ho
  clear hp ho
  go_wp2_with fail
  refine (each_map g h p.stroke 48 #[] (fun _ x => ⟨2, x.b⟩) _ enters48 HP.out (fun n q w' _ hn _ _ hq => dryC_any _ n g h q w' hq hn)).mono ?_
  rintro e w2 ⟨rfl, hp2, ho2⟩
  have HP2 := Lib.hid hp2
  have HO2 := Lib.hid ho2
  clear hp2 ho2
  go_wp2_with fail
  go_ret
  exact ⟨rfl, HP2.out, HO.out.trans HO2.out⟩
set_option maxRecDepth 100000 in
theorem dry_snag (a : PadAt w g h p) (hf : p.falls < 1000000000) (hd : p.down = false) (hs : p.snag = 1) : Calls Try.prog 22 #[.pointer (some ⟨g, 0, none⟩)] w fun e w' => e = .returned (.int .i64 15) ∧ PadAt w' g h p.stroke ∧ Off g h w w' := by
  have hs' : decide (p.snag = 1) = true := by simpa using hs
  have HA := Lib.hid a
  clear a hs
  go_enter Try.func22, Try.ntmps22
  go_wp2_with fail
  refine (ready_up HA.out hd).mono ?_
  rintro e w1 ⟨rfl, rfl⟩
  go_wp2_with fail
  refine (stroke_any HA.out hf hd).mono ?_
  rintro e w1 ⟨rfl, hp, ho⟩
  rw [hs']
  have HP := Lib.hid hp
  have HO := Lib.hid ho
  clear hp ho
  go_wp2_with fail
  go_ret
  exact ⟨rfl, HP.out, HO.out⟩
set_option maxRecDepth 100000 in
theorem dry_down (a : PadAt w g h p) (hd : p.down = true) : Calls Try.prog 22 #[.pointer (some ⟨g, 0, none⟩)] w fun e w' => e = .returned (.int .i64 15) ∧ w = w' := by
  have HA := Lib.hid a
  clear a
  go_enter Try.func22, Try.ntmps22
  go_wp2_with fail
  refine (ready_down HA.out hd).mono ?_
  rintro e w1 ⟨rfl, rfl⟩
  go_wp2_with fail
  go_ret
  exact ⟨rfl, rfl⟩
set_option maxRecDepth 100000 in
theorem dry_nil (w : World) : Calls Try.prog 22 #[.pointer none] w fun e w' => e = .returned (.int .i64 2) ∧ w = w' := by
  go_enter Try.func22, Try.ntmps22
  go_wp2_with fail
  refine (ready_nil _).mono ?_
  rintro e w1 ⟨rfl, rfl⟩
  go_wp2_with fail
  go_ret
  exact ⟨rfl, rfl⟩

set_option maxRecDepth 100000 in
theorem mend_any (a : PadAt w g h p) : Calls Try.prog 24 #[.pointer (some ⟨g, 0, none⟩)] w fun e w' => e = .returned (.tuple #[]) ∧ PadAt w' g h p.mend ∧ Off g h w w' := by
  have c3 := a.c3
  have f3 := a.f 3
  by_cases hd : p.down = true
  · have HA := Lib.hid (a.setDown false)
    clear a
    go_enter Try.func24, Try.ntmps24
    go_wp2_with fail
    refine (each_map g h { p with down := false } 52 #[] (fun _ _ => Lf.zero) _ enters52 HA.out (fun n q w' _ hn _ _ hq => mendC_any _ n g h q w' hq hn)).mono ?_
    rintro e w2 ⟨rfl, hp2, ho2⟩
    have HP2 := Lib.hid hp2
    have HO2 := Lib.hid ho2
    clear hp2 ho2
    go_wp2_with fail
    go_end0
    refine ⟨rfl, ?_, ((Off.refl g h w).setCell (.inl rfl) _).trans HO2.out⟩
    unfold Pd.mend
    rw [if_pos hd]
    exact HP2.out
  · have hd' : p.down = false := by simpa using hd
    have HA := Lib.hid a
    clear a hd
    go_enter Try.func24, Try.ntmps24
    go_wp2_with fail
    go_end0
    refine ⟨rfl, ?_, Off.refl _ _ _⟩
    unfold Pd.mend
    rw [hd']
    exact HA.out
set_option maxRecDepth 100000 in
theorem mend_nil (w : World) : Calls Try.prog 24 #[.pointer none] w fun e w' => e = .returned (.tuple #[]) ∧ w = w' := by
  go_enter Try.func24, Try.ntmps24
  go_wp2_with fail
  go_end0
  exact ⟨rfl, rfl⟩

set_option maxRecDepth 100000 in
theorem drop_any (a : PadAt w g h p) (hf : p.falls < 1000000000) (A : Option Addr) (len cap B : Nat) (keep : List Int) (hk : ∀ w', Off g h w w' → Nums .i64 w' B A len keep) (hwf : ∀ x ∈ keep, (Lit.int .i64 x).wf = true) (hl : len ≤ 1000) :
    Calls Try.prog 23 #[.pointer (some ⟨g, 0, none⟩), .slice A len cap] w fun e w' => e = .returned (.tuple #[]) ∧ PadAt w' g h (p.drop keep) ∧ Off g h w w' := by
  have hmf : ∀ (fn : Fn) (first cap : Array Value) (w : World), (Instr.makeFunc fn first cap).run Try.prog w = .ok (.func fn first cap) w := fun _ _ _ _ => rfl
  have hlt := a.lt
  have HA := Lib.hid (a.alloc (.cells #[.slice A len cap] 34))
  have HK := Lib.hid hk
  have HB := Lib.hid (Blk.new w 34 #[.slice A len cap])
  clear a hk
  go_enter Try.func23, Try.ntmps23
  go_wp2_with fail
  refine (sink_any HA.out hf).mono ?_
  rintro e w2 ⟨rfl, hp2, ho2⟩
  have HP2 := Lib.hid hp2
  have HO2 := Lib.hid (((Off.refl g h w).alloc _).trans ho2)
  have HB2 := Lib.hid (ho2.blk HB.out (by omega) (by omega))
  clear hp2 ho2
  go_wp2_with fail
  refine (each_map g h p.sink 50 #[.pointer (some ⟨w.heap.size, 0, none⟩)] (fun i x => keptL x (keepAt keep i)) _ enters50 HP2.out (fun n q w' _ hn hi ho hq => dropC_any _ n g h w.heap.size cap B len A keep q w' hq hn hi (HK.out w' (HO2.out.trans ho)) hwf (ho.blk HB2.out (by omega) (by omega)) hl)).mono ?_
  rintro e w3 ⟨rfl, hp3, ho3⟩
  have HP3 := Lib.hid hp3
  have HO3 := Lib.hid ho3
  clear hp3 ho3
  go_wp2_with fail
  go_end0
  exact ⟨rfl, HP3.out, HO2.out.trans HO3.out⟩
set_option maxRecDepth 100000 in
theorem drop_nil (w : World) (A : Option Addr) (len cap : Nat) : Calls Try.prog 23 #[.pointer none, .slice A len cap] w fun e w' => e = .returned (.tuple #[]) ∧ Below w.heap.size w w' := by
  go_enter Try.func23, Try.ntmps23
  go_wp2_with fail
  exact bodyPost_ret (results_none rfl _ _ _) rfl ⟨rfl, (Below.refl _ _).alloc (Nat.le_refl _) _⟩
end
end Go.Proofs.Ytdjkkpefljapcaa
