/- A journal in plain Lean, and where it lies; what calls leave as it was; the contracts of Used and Up. -/
import Derived.Test.YtdjkkpefljapcaaJouRefPage
import Derived.Test.YtdjkkpefljapcaaJouReadD
import Derived.Test.YtdjkkpefljapcaaJouQ
import Derived.Test.YtdjkkpefljapcaaLater
namespace Go.Proofs.Ytdjkkpefljapcaa
open Go.RowKit
set_option linter.unusedVariables false
set_option linter.unusedSimpArgs false

structure Jn where
  falls : Int
  l : List (List Int)
  used : Nat

/-- v is a slice of slices of bytes of the call's own. -/
def Recs (w : World) (base : Nat) (v : Value) (l : List (List Int)) : Prop :=
  ∃ vs : List Value, w.ownsRow base 44 1 v l.length vs ∧ vs.length = l.length ∧ ∀ i, i < l.length → OwnB w base (vs.getD i undef) (l.getD i [])

/-- All blocks but those of pads, of leaves, of journals, and x, are as they were. -/
def Safe (x : Option Nat) (w w' : World) : Prop := ∀ (k t : Nat) (cs : Array Value), t ≠ 73 → t ≠ 76 → t ≠ 87 → x ≠ some k → Blk w k t cs → Blk w' k t cs

section
variable {w w' w'' : World} {x : Option Nat} {base g h : Nat} {p : Pd}
theorem Safe.refl (x : Option Nat) (w : World) : Safe x w w := fun _ _ _ _ _ _ _ h => h
theorem Safe.trans (a : Safe x w w') (b : Safe x w' w'') : Safe x w w'' := fun k t cs h1 h2 h3 h4 hb => b k t cs h1 h2 h3 h4 (a k t cs h1 h2 h3 h4 hb)
theorem Safe.of_none (a : Safe none w w') (x : Option Nat) : Safe x w w' := fun k t cs h1 h2 h3 _ hb => a k t cs h1 h2 h3 (by simp) hb
theorem Safe.of_below (a : Below w.heap.size w w') (x : Option Nat) : Safe x w w' := fun k t cs _ _ _ _ hb => hb.below a hb.lt
theorem Blk.ty {w : World} {k t t' : Nat} {cs cs' : Array Value} (a : Blk w k t cs) (b : Blk w k t' cs') : t = t' := by
  unfold Blk at a b
  rw [a] at b
  injection b with b
  injection b
theorem Safe.of_off (a : PadAt w g h p) (o : Off g h w w') (x : Option Nat) : Safe x w w' := fun k t cs h1 h2 _ _ hb =>
  o.blk hb (fun e => by subst e; exact h1 (hb.ty a.head)) (fun e => by subst e; exact h2 (hb.ty a.row))
theorem own_safe {e : TypeId} {size n : Nat} {v : Value} {xs : List Value} (h1 : e ≠ 73) (h2 : e ≠ 76) (h3 : e ≠ 87) (a : Safe x w w') (hx : x = none ∨ v.ownBlock ≠ x) (h : w.ownsRow base e size v n xs) : w'.ownsRow base e size v n xs := by
  refine ⟨h.1, ?_⟩
  rcases h.2 with hn | ⟨g, cap, cur, rfl, hb, hg, rest⟩
  · exact .inl hn
  · refine .inr ⟨g, cap, cur, rfl, hb, a g e cur h1 h2 h3 ?_ hg, rest⟩
    rcases hx with rfl | hx
    · simp
    · exact fun e => hx e.symm
/-- No row of bytes is x. -/
theorem OwnB.safe {v : Value} {bs : List Int} (a : Safe x w w') (hx : ∀ k, x = some k → ∀ cs, ¬ Blk w k 5 cs) (h : OwnB w base v bs) : OwnB w' base v bs := by
  refine ⟨h.1, ?_⟩
  rcases h.2 with hn | ⟨g, cap, cur, rfl, hb, hg, rest⟩
  · exact .inl hn
  · exact .inr ⟨g, cap, cur, rfl, hb, a g 5 cur (by decide) (by decide) (by decide) (fun e => hx g e cur hg) hg, rest⟩
theorem Recs.safe {v : Value} {l : List (List Int)} (a : Safe x w w') (hx : x = none ∨ (v.ownBlock ≠ x ∧ ∀ k, x = some k → ∀ cs, ¬ Blk w k 5 cs)) (h : Recs w base v l) : Recs w' base v l := by
  obtain ⟨vs, h1, h2, h3⟩ := h
  refine ⟨vs, own_safe (by decide) (by decide) (by decide) a (hx.imp id (·.1)) h1, h2, fun i hi => (h3 i hi).safe a (fun k e cs => ?_)⟩
  rcases hx with rfl | hx
  · cases e
  · exact hx.2 k e cs
theorem Recs.lower {v : Value} {l : List (List Int)} {base' : Nat} (h : Recs w base v l) (hb : base' ≤ base) : Recs w base' v l := by
  obtain ⟨vs, h1, h2, h3⟩ := h
  refine ⟨vs, ⟨h1.1, ?_⟩, h2, fun i hi => own_base (h3 i hi) hb⟩
  rcases h1.2 with hn | ⟨g, cap, cur, hv, hg, rest⟩
  · exact .inl hn
  · exact .inr ⟨g, cap, cur, hv, Nat.le_trans hb hg, rest⟩
theorem Recs.nil (w : World) (base : Nat) : Recs w base (.slice none 0 0) [] := ⟨[], World.ownsRow_nil _ _ _ _, rfl, fun i hi => absurd hi (by simp)⟩
/-- The block of a row of records holds slices. -/
theorem Recs.block {v : Value} {l : List (List Int)} (h : Recs w base v l) : ∀ k, v.ownBlock = some k → base ≤ k ∧ k < w.heap.size ∧ ∃ cs, Blk w k 44 cs := by
  intro k hk
  obtain ⟨vs, h1, _, _⟩ := h
  have hl := h1.lt k hk
  refine ⟨hl.1, hl.2, ?_⟩
  rcases h1.2 with ⟨rfl, _⟩ | ⟨g, cap, cur, rfl, hb, hg, rest⟩
  · simp [Value.ownBlock] at hk
  · simp [Value.ownBlock] at hk
    subst hk
    exact ⟨cur, hg⟩
theorem Recs.noB {v : Value} {l : List (List Int)} (h : Recs w base v l) : ∀ k, v.ownBlock = some k → ∀ cs, ¬ Blk w k 5 cs := by
  intro k hk cs hb
  obtain ⟨_, _, cs', hb'⟩ := h.block k hk
  exact absurd (hb.ty hb') (by decide)
end

/-- The journal J lies in block j, over the pad in block g; v: the slice of its records. -/
structure JouAt (w : World) (base g j : Nat) (v : Value) (J : Jn) : Prop where
  head : Blk w j 87 #[.pointer (some ⟨g, 0, none⟩), .int .i64 J.falls, v, .int .i64 J.used]
  recs : Recs w base v J.l
  falls : 0 ≤ J.falls ∧ J.falls ≤ 1000000000
  used : J.used ≤ 20000
  many : J.l.length ≤ J.used

section
variable {w w' w'' : World} {base g h j : Nat} {p : Pd} {v : Value} {J : Jn}
theorem JouAt.c0 (a : JouAt w base g j v J) : w.cell? ⟨j, 0, none⟩ = some (.pointer (some ⟨g, 0, none⟩)) := by rw [a.head.cell]; rfl
theorem JouAt.c1 (a : JouAt w base g j v J) : w.cell? ⟨j, 1, none⟩ = some (.int .i64 J.falls) := by rw [a.head.cell]; rfl
theorem JouAt.c2 (a : JouAt w base g j v J) : w.cell? ⟨j, 2, none⟩ = some v := by rw [a.head.cell]; rfl
theorem JouAt.c3 (a : JouAt w base g j v J) : w.cell? ⟨j, 3, none⟩ = some (.int .i64 J.used) := by rw [a.head.cell]; rfl
theorem JouAt.off (a : JouAt w base g j v J) (hp : PadAt w g h p) (o : Off g h w w') : JouAt w' base g j v J :=
  ⟨o.blk a.head (fun e => by subst e; exact absurd (a.head.ty hp.head) (by decide)) (fun e => by subst e; exact absurd (a.head.ty hp.row) (by decide)), a.recs.safe (Safe.of_off hp o none) (.inl rfl), a.falls, a.used, a.many⟩
theorem JouAt.below (a : JouAt w base g j v J) (o : Below w.heap.size w w') : JouAt w' base g j v J :=
  ⟨a.head.below o a.head.lt, a.recs.safe (Safe.of_below o none) (.inl rfl), a.falls, a.used, a.many⟩
end
theorem Off.of_quiet {g h : Nat} {w w' : World} (q : Quiet w w') : Off g h w w' := Off.of_below (q.below _)

set_option maxRecDepth 100000 in
theorem used_any {w : World} {base g j : Nat} {v : Value} {J : Jn} (a : JouAt w base g j v J) : Calls Try.prog 39 #[.pointer (some ⟨j, 0, none⟩)] w fun e w' => e = .returned (.int .i64 J.used) ∧ w = w' := by
  have c3 := a.c3
  go_enter Try.func39, Try.ntmps39
  go_wp2
  go_ret
  exact ⟨rfl, rfl⟩
set_option maxRecDepth 100000 in
theorem used_nil (w : World) : Calls Try.prog 39 #[.pointer none] w fun e w' => e = .returned (.int .i64 0) ∧ w = w' := by
  go_enter Try.func39, Try.ntmps39
  go_wp2
  go_ret
  exact ⟨rfl, rfl⟩
set_option maxRecDepth 100000 in
theorem up_nil (w : World) : Calls Try.prog 60 #[.pointer none] w fun e w' => e = .returned (.int .i64 2) ∧ w = w' := by
  go_enter Try.func60, Try.ntmps60
  go_wp2
  go_ret
  exact ⟨rfl, rfl⟩
theorem quiet_same {f : FuncId} {args : Array Value} {w0 : World} {n : Nat} {v : Value} (h : Calls Try.prog f args (w0.drewN n) fun e w' => e = .returned v ∧ w0.drewN n = w') : Calls Try.prog f args (w0.drewN n) fun e w'' => e = .returned v ∧ ∃ m, w'' = w0.drewN m :=
  h.mono fun _ _ ⟨he, hm⟩ => ⟨he, n, hm.symm⟩
theorem PadAt.drewN {w : World} {g h : Nat} {p : Pd} (a : PadAt w g h p) (n : Nat) : PadAt (w.drewN n) g h p := a.keep (fun _ _ b => b) (fun _ _ b => b)
theorem JouAt.drewN {w : World} {base g j : Nat} {v : Value} {J : Jn} (a : JouAt w base g j v J) (n : Nat) : JouAt (w.drewN n) base g j v J := a.below ((Quiet.drewN w n).below _)

theorem down_is {w : World} {g h : Nat} {p : Pd} {b : Bool} (a : PadAt w g h p) (hd : p.down = b) : Calls Try.prog 26 #[.pointer (some ⟨g, 0, none⟩)] w fun e w' => e = .returned (.bool b) ∧ w = w' := by
  have := down_any a
  rw [hd] at this
  exact this
theorem falls_is {w : World} {g h : Nat} {p : Pd} {i : Int} (a : PadAt w g h p) (hd : p.falls = i) : Calls Try.prog 58 #[.pointer (some ⟨g, 0, none⟩)] w fun e w' => e = .returned (.int .i64 i) ∧ w = w' := by
  have := falls_any a
  rw [hd] at this
  exact this

set_option maxRecDepth 100000 in
theorem up_ok {w : World} {base g h j : Nat} {v : Value} {J : Jn} {p : Pd} (a : JouAt w base g j v J) (hp : PadAt w g h p) (hd : p.down = false) (hf : p.falls = J.falls) :
    Calls Try.prog 60 #[.pointer (some ⟨j, 0, none⟩)] w fun e w' => e = .returned (.int .i64 0) ∧ Quiet w w' := by
  have c0 := a.c0
  have c1 := a.c1
  go_enter Try.func60, Try.ntmps60
  go_wp2_with fail
  go_quiet (first
    | (go_at_call 26; exact quiet_same (down_is (hp.drewN _) hd))
    | (go_at_call 58; exact quiet_same (falls_is (hp.drewN _) hf)))
  go_wp2_with fail
  go_ret
  exact ⟨rfl, Quiet.drewN _ _⟩
set_option maxRecDepth 100000 in
theorem up_down {w : World} {base g h j : Nat} {v : Value} {J : Jn} {p : Pd} (a : JouAt w base g j v J) (hp : PadAt w g h p) (hd : p.down = true) :
    Calls Try.prog 60 #[.pointer (some ⟨j, 0, none⟩)] w fun e w' => e = .returned (.int .i64 15) ∧ Quiet w w' := by
  have c0 := a.c0
  have c1 := a.c1
  go_enter Try.func60, Try.ntmps60
  go_wp2_with fail
  go_quiet ((go_at_call 26; exact quiet_same (down_is (hp.drewN _) hd)))
  go_wp2_with fail
  go_ret
  exact ⟨rfl, Quiet.drewN _ _⟩
end Go.Proofs.Ytdjkkpefljapcaa
