/- A region that draws its order, whose operations only read old cells and whose callees may make memory of their own: one walk of the text's order serves every order. -/
import Derived.Test.YtdjkkpefljapcaaLib
import Derived.Deep.QuietTactic
import Derived.BigQuiet
namespace Go.Proofs.Ytdjkkpefljapcaa
open Go.RowKit

/-- A world that is as W below block B. -/
structure Later (B : Nat) (W : World) where
  w : World
  below : Below B W w

section
variable {P : Program} {B : Nat} {W : World}
def Later.new (B : Nat) (W : World) : Later B W := ⟨W.drew, (Below.refl B W).drew⟩
instance Later.some_ : Nonempty (Later B W) := ⟨Later.new B W⟩
theorem Later.cell (x : Later B W) {p : Addr} {v : Value} (hp : p.block < B) (h : W.cell? p = some v) : x.w.cell? p = some v := (x.below.cell hp).trans h

theorem wp_region_later {id : Nat} {Q : Exit → Act → World → Prop} {a : Act} {l : List Oper} (B : Nat) (hm : P.follows .mixedOrders = true) (hB : Region.lexB .any l.toArray = true)
    (h : wpQuiet P l.toArray (fun w' => ∃ x : Later B W, w' = x.w) (fun a' => ∀ w', (∃ x : Later B W, w' = x.w) → Q .normal a' w') l a) : (Code.region id l.toArray true).wp P Q a W :=
  wp_region_quiet (C := fun w' => ∃ x : Later B W, w' = x.w) hm hB ⟨Later.new B W, rfl⟩ (by simpa using h)

theorem later_same {f : FuncId} {args : Array Value} {x : Later B W} {v : Value} (h : Calls P f args x.w fun e w' => e = .returned v ∧ x.w = w') : Calls P f args x.w fun e w'' => e = .returned v ∧ ∃ y : Later B W, w'' = y.w :=
  h.mono fun _ _ ⟨he, hm⟩ => ⟨he, x, hm.symm⟩
theorem later_below {f : FuncId} {args : Array Value} {x : Later B W} {v : Value} (hB : B ≤ W.heap.size) (h : Calls P f args x.w fun e w' => e = .returned v ∧ Below x.w.heap.size x.w w') : Calls P f args x.w fun e w'' => e = .returned v ∧ ∃ y : Later B W, w'' = y.w :=
  h.mono fun _ w' ⟨he, hb⟩ => ⟨he, ⟨w', x.below.trans (hb.mono (Nat.le_trans hB x.below.size))⟩, rfl⟩
theorem later_quiet {f : FuncId} {args : Array Value} {x : Later B W} {v : Value} (h : Calls P f args x.w fun e w' => e = .returned v ∧ Quiet x.w w') : Calls P f args x.w fun e w'' => e = .returned v ∧ ∃ y : Later B W, w'' = y.w :=
  h.mono fun _ w' ⟨he, hb⟩ => ⟨he, ⟨w', x.below.trans (hb.below _)⟩, rfl⟩
end
end Go.Proofs.Ytdjkkpefljapcaa
