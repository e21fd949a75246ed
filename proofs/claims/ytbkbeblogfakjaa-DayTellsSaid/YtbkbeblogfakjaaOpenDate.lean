/- A date that came in, opened to its three numbers. -/
import Derived.Test.YtbkbeblogfakjaaProg
import Derived.Test.YtbkbeblogfakjaaLib
import Derived.Lib.SmallJoins
import Derived.ProofKit
namespace Go.Proofs.Ytbkbeblogfakjaa
open Go.ChangeShapes Go.WideShapes Go.Joins Go.RowKit

theorem openDate {H : Type} {enc : TypeId × Value → H} {W : World} {b0 : Nat} {v : Value} {d : DataW H} {p : List MemPlace} (hv : Value.okWide Try.prog W .any b0 27 v) (h : DataW.Trod enc Try.prog W 0 (fun _ => true) true 27 v d p) :
    ∃ y m k : Int, v = .agg #[.int .i64 y, .int .i64 m, .int .i64 k] := by
  obtain ⟨v0, v1, v2, y0, y1, y2, n, rfl, _, _, t0, t1, t2⟩ := open_agg3 Try.underlying27 (by kernel_rfl) (by kernel_rfl) hv h
  obtain ⟨n0, e0, _, _⟩ := DataW.trod_int Try.underlying3 t0
  obtain ⟨n1, e1, _, _⟩ := DataW.trod_int Try.underlying3 t1
  obtain ⟨n2, e2, _, _⟩ := DataW.trod_int Try.underlying3 t2
  simp only [List.cons.injEq, and_true] at e0 e1 e2
  subst e0 e1 e2
  exact ⟨n0, n1, n2, rfl⟩
end Go.Proofs.Ytbkbeblogfakjaa
