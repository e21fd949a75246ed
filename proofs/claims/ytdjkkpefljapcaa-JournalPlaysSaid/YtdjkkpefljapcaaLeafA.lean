/- The contracts of leaf.Pad's small methods: there, ready, sink, stroke, Len, Down, Falls, Snag; at a pad, and at nil. -/
import Derived.Test.YtdjkkpefljapcaaProg
import Derived.Test.YtdjkkpefljapcaaPad
import Derived.WalkSpells
namespace Go.Proofs.Ytdjkkpefljapcaa
open Go.RowKit
set_option linter.unusedVariables false
set_option linter.unusedSimpArgs false

section
variable {w : World} {g h : Nat} {p : Pd}
set_option maxRecDepth 100000 in
theorem there_yes (n : Nat) (a : PadAt w g h p) (hn : n < p.l.length) : Calls Try.prog 43 #[.pointer (some ⟨g, 0, none⟩), .int .i64 n] w fun e w' => e = .returned (.bool true) ∧ w = w' := by
  have c0 := a.c0
  have hlen := a.len
  go_enter Try.func43, Try.ntmps43
  go_wp2
  go_ret
  exact ⟨rfl, rfl⟩
set_option maxRecDepth 100000 in
theorem there_no (n : Int) (a : PadAt w g h p) (hn : n < 0 ∨ (p.l.length : Int) ≤ n) : Calls Try.prog 43 #[.pointer (some ⟨g, 0, none⟩), .int .i64 n] w fun e w' => e = .returned (.bool false) ∧ w = w' := by
  have c0 := a.c0
  have hlen := a.len
  by_cases h0 : 0 ≤ n
  · have h1 : ¬ n < p.l.length := by omega
    clear hn
    go_enter Try.func43, Try.ntmps43
    go_wp2
    go_ret
    exact ⟨rfl, rfl⟩
  · clear hn
    go_enter Try.func43, Try.ntmps43
    go_wp2
    go_ret
    exact ⟨rfl, rfl⟩

set_option maxRecDepth 100000 in
theorem ready_up (a : PadAt w g h p) (hd : p.down = false) : Calls Try.prog 44 #[.pointer (some ⟨g, 0, none⟩)] w fun e w' => e = .returned (.int .i64 0) ∧ w = w' := by
  have c3 := a.c3
  go_enter Try.func44, Try.ntmps44
  go_wp2
  go_ret
  exact ⟨rfl, rfl⟩
set_option maxRecDepth 100000 in
theorem ready_down (a : PadAt w g h p) (hd : p.down = true) : Calls Try.prog 44 #[.pointer (some ⟨g, 0, none⟩)] w fun e w' => e = .returned (.int .i64 15) ∧ w = w' := by
  have c3 := a.c3
  go_enter Try.func44, Try.ntmps44
  go_wp2
  go_ret
  exact ⟨rfl, rfl⟩
set_option maxRecDepth 100000 in
theorem ready_nil (w : World) : Calls Try.prog 44 #[.pointer none] w fun e w' => e = .returned (.int .i64 2) ∧ w = w' := by
  go_enter Try.func44, Try.ntmps44
  go_wp2
  go_ret
  exact ⟨rfl, rfl⟩

set_option maxRecDepth 100000 in
theorem sink_any (a : PadAt w g h p) (hf : p.falls < 1000000000) : Calls Try.prog 49 #[.pointer (some ⟨g, 0, none⟩)] w fun e w' => e = .returned (.tuple #[]) ∧ PadAt w' g h p.sink ∧ Off g h w w' := by
  have c2 := a.c2
  have c3 := a.c3
  have f2 := a.f 2
  have f3 := a.f 3
  obtain ⟨b0, b1⟩ := a.falls
  have A := Lib.hid a
  clear a
  by_cases hd : p.down = true
  · go_enter Try.func49, Try.ntmps49
    go_wp2
    go_end0
    refine ⟨rfl, ?_, (Off.refl g h w).setCell (.inl rfl) _⟩
    have := A.out.setDown true
    simpa [Pd.sink, hd] using this
  · have hd' : p.down = false := by simpa using hd
    clear hd
    go_enter Try.func49, Try.ntmps49
    go_wp2
    go_end0
    refine ⟨rfl, ?_, ((Off.refl g h w).setCell (.inl rfl) _).setCell (.inl rfl) _⟩
    have := (A.out.setFalls (i := p.falls + 1) (by omega) (by omega)).setDown true
    simpa [Pd.sink, hd'] using this

set_option maxRecDepth 100000 in
theorem stroke_any (a : PadAt w g h p) (hf : p.falls < 1000000000) (hd : p.down = false) : Calls Try.prog 45 #[.pointer (some ⟨g, 0, none⟩)] w fun e w' => e = .returned (.bool (!decide (p.snag = 1))) ∧ PadAt w' g h p.stroke ∧ Off g h w w' := by
  have c1 := a.c1
  have f1 := a.f 1
  obtain ⟨b0, b1⟩ := a.snag
  by_cases h1 : p.snag = 1
  · have A := Lib.hid (a.setSnag (i := 0) (by omega) (by omega))
    rw [h1] at c1
    clear a
    go_enter Try.func45, Try.ntmps45
    go_wp2_with fail
    refine (sink_any A.out hf).mono ?_
    rintro e w' ⟨rfl, hp, ho⟩
    have HP := Lib.hid hp
    have HO := Lib.hid ho
    clear hp ho
    go_wp2_with fail
    go_ret
    refine ⟨by simp [h1], ?_, ((Off.refl g h w).setCell (.inl rfl) _).trans HO.out⟩
    have := HP.out
    simpa [Pd.sink, Pd.stroke, h1, hd] using this
  · by_cases h0 : p.snag = 0
    · rw [h0] at c1
      have A := Lib.hid a
      clear a
      go_enter Try.func45, Try.ntmps45
      go_wp2_with fail
      go_ret
      refine ⟨by simp [h1], ?_, ((Off.refl g h w).setCell (.inl rfl) _).setCell (.inl rfl) _⟩
      have := A.out.setSnag2 (.int .i64 (-1)) (i := 0) (by omega) (by omega)
      have e : ({ p with snag := 0 } : Pd) = p.stroke := by unfold Pd.stroke; rw [if_pos h0]; cases p; simp_all
      rw [e] at this
      exact this
    · have A := Lib.hid a
      clear a
      go_enter Try.func45, Try.ntmps45
      go_wp2_with fail
      go_ret
      refine ⟨by simp [h1], ?_, ((Off.refl g h w).setCell (.inl rfl) _).setCell (.inl rfl) _⟩
      have := A.out.setSnag2 (.int .i64 (p.snag - 1)) (i := p.snag - 1) (by omega) (by omega)
      have e : ({ p with snag := p.snag - 1 } : Pd) = p.stroke := by unfold Pd.stroke; rw [if_neg h0, if_neg h1]
      rw [e] at this
      exact this

set_option maxRecDepth 100000 in
theorem len_any (a : PadAt w g h p) : Calls Try.prog 17 #[.pointer (some ⟨g, 0, none⟩)] w fun e w' => e = .returned (.int .i64 p.l.length) ∧ w = w' := by
  have c0 := a.c0
  go_enter Try.func17, Try.ntmps17
  go_wp2
  go_ret
  exact ⟨rfl, rfl⟩
set_option maxRecDepth 100000 in
theorem len_nil (w : World) : Calls Try.prog 17 #[.pointer none] w fun e w' => e = .returned (.int .i64 0) ∧ w = w' := by
  go_enter Try.func17, Try.ntmps17
  go_wp2
  go_ret
  exact ⟨rfl, rfl⟩
set_option maxRecDepth 100000 in
theorem down_any (a : PadAt w g h p) : Calls Try.prog 26 #[.pointer (some ⟨g, 0, none⟩)] w fun e w' => e = .returned (.bool p.down) ∧ w = w' := by
  have c3 := a.c3
  go_enter Try.func26, Try.ntmps26
  go_wp2
  go_ret
  exact ⟨rfl, rfl⟩
set_option maxRecDepth 100000 in
theorem down_nil (w : World) : Calls Try.prog 26 #[.pointer none] w fun e w' => e = .returned (.bool true) ∧ w = w' := by
  go_enter Try.func26, Try.ntmps26
  go_wp2
  go_ret
  exact ⟨rfl, rfl⟩
set_option maxRecDepth 100000 in
theorem falls_any (a : PadAt w g h p) : Calls Try.prog 58 #[.pointer (some ⟨g, 0, none⟩)] w fun e w' => e = .returned (.int .i64 p.falls) ∧ w = w' := by
  have c2 := a.c2
  go_enter Try.func58, Try.ntmps58
  go_wp2
  go_ret
  exact ⟨rfl, rfl⟩
set_option maxRecDepth 100000 in
theorem snag_any (n : Int) (hn : n ≤ 9223372036854775807) (a : PadAt w g h p) : Calls Try.prog 25 #[.pointer (some ⟨g, 0, none⟩), .int .i64 n] w fun e w' => e = .returned (.tuple #[]) ∧ PadAt w' g h { p with snag := max n 0 } ∧ Off g h w w' := by
  have c1 := a.c1
  have f1 := a.f 1
  have A := Lib.hid a
  clear a
  by_cases h0 : 0 ≤ n
  · go_enter Try.func25, Try.ntmps25
    go_wp2
    go_end0
    refine ⟨rfl, ?_, (Off.refl g h w).setCell (.inl rfl) _⟩
    rw [show max n 0 = n from by omega]
    exact A.out.setSnag h0 hn
  · go_enter Try.func25, Try.ntmps25
    go_wp2
    go_end0
    refine ⟨rfl, ?_, (Off.refl g h w).setCell (.inl rfl) _⟩
    rw [show max n 0 = 0 from by omega]
    exact A.out.setSnag (by omega) (by omega)
set_option maxRecDepth 100000 in
theorem snag_nil (n : Int) (w : World) : Calls Try.prog 25 #[.pointer none, .int .i64 n] w fun e w' => e = .returned (.tuple #[]) ∧ w = w' := by
  go_enter Try.func25, Try.ntmps25
  go_wp2
  go_end0
  exact ⟨rfl, rfl⟩
end
end Go.Proofs.Ytdjkkpefljapcaa
