/-
  No cell of these rows narrows 'for every input' (looked for: loops, veiled, ifaces, maps, wideKeys, modest, calm, conditions, laid).
  DERIVED. THE GIVEN ROWS OF THIS SEAT. 11 by the template 'for every input the law returns true; each argument reads behind the call as it read before'; 0 by the template 'total and deterministic' (their statements: YtbkbeblogfakjaaTotals.lean).
  GIVEN WITH THE SEED: the statements are not yours to turn. If you find one false, say at which input.
  Laid BY PROGRAM, IN A SANDBOX (cutbox-rows.mjs): the forced cells as the released guide's own fill.sh prints them over the translation 62c6df5a953f3b1c… (all of the seat's roots in one cut). By AI agents, Wed Nov 11 2026. No macro, syntax, notation, axiom, sorry.
-/
import Derived.Test.YtbkbeblogfakjaaChecked
import GoSem.Claim
import GoSem.ClaimJoined
import GoSem.ClaimMapViews
import Derived.JoinedTies
import Derived.KernelRfl
namespace Go.Proofs.Ytbkbeblogfakjaa
/- THE CELL 'sum', in the pinned program and in every row, IS THE sha256 OF THE DUMP (.gsa) THAT YtbkbeblogfakjaaProg.lean LOADS. Nothing in Lean hashes anything: it is a label: what it is worth is what the hold of that sum in a sandbox is worth. -/
noncomputable def Try.pinned : Pinned := { name := "ytbkbeblogfakjaa", sum := "62c6df5a953f3b1c37b141f37e894415a27c86588704ed312e3f582b5bd1213b", checked := Try.checked }
namespace Rows
def none {H : Type} : Left H := { results := [], args := [] }

/-- 'lombardlaw02.DayYears': WHATEVER THE INPUT: true; the input reads as it did. -/
def dayYearsSpec : ChangeSpec := { name := "dayYears", fn := fun _ => fun
  | [d] => { results := [.lit (.bool true)], args := [d] }
  | _ => none }
def dayYearsRow : OpenClaim := { program := "ytbkbeblogfakjaa", sum := "62c6df5a953f3b1c37b141f37e894415a27c86588704ed312e3f582b5bd1213b", func := "lombard/lombardlaw02.DayYears", spec := "dayYears", apart := false }
def DayYearsSaid : Prop := dayYearsRow.holds Try.pinned (OpenSpec.ofChange dayYearsSpec)

/-- ITS FALSE NEIGHBOUR: 'it returns false'. Refute it at one input. -/
def dayYearsWrong : ChangeSpec := { name := "dayYears", fn := fun _ => fun
  | [d] => { results := [.lit (.bool false)], args := [d] }
  | _ => none }
def DayYearsWrongFalsely : Prop := dayYearsRow.holds Try.pinned (OpenSpec.ofChange dayYearsWrong)

/-- 'lombardlaw02.DayMonths': WHATEVER THE INPUT: true; the input reads as it did. -/
def dayMonthsSpec : ChangeSpec := { name := "dayMonths", fn := fun _ => fun
  | [d1, d2] => { results := [.lit (.bool true)], args := [d1, d2] }
  | _ => none }
def dayMonthsRow : OpenClaim := { program := "ytbkbeblogfakjaa", sum := "62c6df5a953f3b1c37b141f37e894415a27c86588704ed312e3f582b5bd1213b", func := "lombard/lombardlaw02.DayMonths", spec := "dayMonths", apart := false }
def DayMonthsSaid : Prop := dayMonthsRow.holds Try.pinned (OpenSpec.ofChange dayMonthsSpec)

/-- ITS FALSE NEIGHBOUR: 'it returns false'. Refute it at one input. -/
def dayMonthsWrong : ChangeSpec := { name := "dayMonths", fn := fun _ => fun
  | [d1, d2] => { results := [.lit (.bool false)], args := [d1, d2] }
  | _ => none }
def DayMonthsWrongFalsely : Prop := dayMonthsRow.holds Try.pinned (OpenSpec.ofChange dayMonthsWrong)

/-- 'lombardlaw02.DayWeeks': WHATEVER THE INPUT: true; the input reads as it did. -/
def dayWeeksSpec : ChangeSpec := { name := "dayWeeks", fn := fun _ => fun
  | [d] => { results := [.lit (.bool true)], args := [d] }
  | _ => none }
def dayWeeksRow : OpenClaim := { program := "ytbkbeblogfakjaa", sum := "62c6df5a953f3b1c37b141f37e894415a27c86588704ed312e3f582b5bd1213b", func := "lombard/lombardlaw02.DayWeeks", spec := "dayWeeks", apart := false }
def DayWeeksSaid : Prop := dayWeeksRow.holds Try.pinned (OpenSpec.ofChange dayWeeksSpec)

/-- ITS FALSE NEIGHBOUR: 'it returns false'. Refute it at one input. -/
def dayWeeksWrong : ChangeSpec := { name := "dayWeeks", fn := fun _ => fun
  | [d] => { results := [.lit (.bool false)], args := [d] }
  | _ => none }
def DayWeeksWrongFalsely : Prop := dayWeeksRow.holds Try.pinned (OpenSpec.ofChange dayWeeksWrong)

/-- 'lombardlaw02.DayBack': WHATEVER THE INPUT: true; the input reads as it did. -/
def dayBackSpec : ChangeSpec := { name := "dayBack", fn := fun _ => fun
  | [d1, d2] => { results := [.lit (.bool true)], args := [d1, d2] }
  | _ => none }
def dayBackRow : OpenClaim := { program := "ytbkbeblogfakjaa", sum := "62c6df5a953f3b1c37b141f37e894415a27c86588704ed312e3f582b5bd1213b", func := "lombard/lombardlaw02.DayBack", spec := "dayBack", apart := false }
def DayBackSaid : Prop := dayBackRow.holds Try.pinned (OpenSpec.ofChange dayBackSpec)

/-- ITS FALSE NEIGHBOUR: 'it returns false'. Refute it at one input. -/
def dayBackWrong : ChangeSpec := { name := "dayBack", fn := fun _ => fun
  | [d1, d2] => { results := [.lit (.bool false)], args := [d1, d2] }
  | _ => none }
def DayBackWrongFalsely : Prop := dayBackRow.holds Try.pinned (OpenSpec.ofChange dayBackWrong)

/-- 'lombardlaw02.DayTells': WHATEVER THE INPUT: true; the input reads as it did. -/
def dayTellsSpec : ChangeSpec := { name := "dayTells", fn := fun _ => fun
  | [d1, d2] => { results := [.lit (.bool true)], args := [d1, d2] }
  | _ => none }
def dayTellsRow : OpenClaim := { program := "ytbkbeblogfakjaa", sum := "62c6df5a953f3b1c37b141f37e894415a27c86588704ed312e3f582b5bd1213b", func := "lombard/lombardlaw02.DayTells", spec := "dayTells", apart := false }
def DayTellsSaid : Prop := dayTellsRow.holds Try.pinned (OpenSpec.ofChange dayTellsSpec)

/-- ITS FALSE NEIGHBOUR: 'it returns false'. Refute it at one input. -/
def dayTellsWrong : ChangeSpec := { name := "dayTells", fn := fun _ => fun
  | [d1, d2] => { results := [.lit (.bool false)], args := [d1, d2] }
  | _ => none }
def DayTellsWrongFalsely : Prop := dayTellsRow.holds Try.pinned (OpenSpec.ofChange dayTellsWrong)

/-- 'lombardlaw02.DayNext': WHATEVER THE INPUT: true; the input reads as it did. -/
def dayNextSpec : ChangeSpec := { name := "dayNext", fn := fun _ => fun
  | [d] => { results := [.lit (.bool true)], args := [d] }
  | _ => none }
def dayNextRow : OpenClaim := { program := "ytbkbeblogfakjaa", sum := "62c6df5a953f3b1c37b141f37e894415a27c86588704ed312e3f582b5bd1213b", func := "lombard/lombardlaw02.DayNext", spec := "dayNext", apart := false }
def DayNextSaid : Prop := dayNextRow.holds Try.pinned (OpenSpec.ofChange dayNextSpec)

/-- ITS FALSE NEIGHBOUR: 'it returns false'. Refute it at one input. -/
def dayNextWrong : ChangeSpec := { name := "dayNext", fn := fun _ => fun
  | [d] => { results := [.lit (.bool false)], args := [d] }
  | _ => none }
def DayNextWrongFalsely : Prop := dayNextRow.holds Try.pinned (OpenSpec.ofChange dayNextWrong)

/-- 'lombardlaw03.CycleEnds': WHATEVER THE INPUT: true; the input reads as it did. -/
def cycleEndsSpec : ChangeSpec := { name := "cycleEnds", fn := fun _ => fun
  | [d1, d2] => { results := [.lit (.bool true)], args := [d1, d2] }
  | _ => none }
def cycleEndsRow : OpenClaim := { program := "ytbkbeblogfakjaa", sum := "62c6df5a953f3b1c37b141f37e894415a27c86588704ed312e3f582b5bd1213b", func := "lombard/lombardlaw03.CycleEnds", spec := "cycleEnds", apart := false }
def CycleEndsSaid : Prop := cycleEndsRow.holds Try.pinned (OpenSpec.ofChange cycleEndsSpec)

/-- ITS FALSE NEIGHBOUR: 'it returns false'. Refute it at one input. -/
def cycleEndsWrong : ChangeSpec := { name := "cycleEnds", fn := fun _ => fun
  | [d1, d2] => { results := [.lit (.bool false)], args := [d1, d2] }
  | _ => none }
def CycleEndsWrongFalsely : Prop := cycleEndsRow.holds Try.pinned (OpenSpec.ofChange cycleEndsWrong)

/-- 'lombardlaw03.CycleFirst': WHATEVER THE INPUT: true; the input reads as it did. -/
def cycleFirstSpec : ChangeSpec := { name := "cycleFirst", fn := fun _ => fun
  | [d1, d2, d3, d4] => { results := [.lit (.bool true)], args := [d1, d2, d3, d4] }
  | _ => none }
def cycleFirstRow : OpenClaim := { program := "ytbkbeblogfakjaa", sum := "62c6df5a953f3b1c37b141f37e894415a27c86588704ed312e3f582b5bd1213b", func := "lombard/lombardlaw03.CycleFirst", spec := "cycleFirst", unfollowed := true, recurses := true, apart := false }
def CycleFirstSaid : Prop := cycleFirstRow.holds Try.pinned (OpenSpec.ofChange cycleFirstSpec)

/-- ITS FALSE NEIGHBOUR: 'it returns false'. Refute it at one input. -/
def cycleFirstWrong : ChangeSpec := { name := "cycleFirst", fn := fun _ => fun
  | [d1, d2, d3, d4] => { results := [.lit (.bool false)], args := [d1, d2, d3, d4] }
  | _ => none }
def CycleFirstWrongFalsely : Prop := cycleFirstRow.holds Try.pinned (OpenSpec.ofChange cycleFirstWrong)

/-- 'lombardlaw03.CycleTells': WHATEVER THE INPUT: true; the input reads as it did. -/
def cycleTellsSpec : ChangeSpec := { name := "cycleTells", fn := fun _ => fun
  | [d1, d2, d3, d4] => { results := [.lit (.bool true)], args := [d1, d2, d3, d4] }
  | _ => none }
def cycleTellsRow : OpenClaim := { program := "ytbkbeblogfakjaa", sum := "62c6df5a953f3b1c37b141f37e894415a27c86588704ed312e3f582b5bd1213b", func := "lombard/lombardlaw03.CycleTells", spec := "cycleTells", unfollowed := true, recurses := true, apart := false }
def CycleTellsSaid : Prop := cycleTellsRow.holds Try.pinned (OpenSpec.ofChange cycleTellsSpec)

/-- ITS FALSE NEIGHBOUR: 'it returns false'. Refute it at one input. -/
def cycleTellsWrong : ChangeSpec := { name := "cycleTells", fn := fun _ => fun
  | [d1, d2, d3, d4] => { results := [.lit (.bool false)], args := [d1, d2, d3, d4] }
  | _ => none }
def CycleTellsWrongFalsely : Prop := cycleTellsRow.holds Try.pinned (OpenSpec.ofChange cycleTellsWrong)

/-- 'lombardlaw03.CycleEach': WHATEVER THE INPUT: true; the input reads as it did. -/
def cycleEachSpec : ChangeSpec := { name := "cycleEach", fn := fun _ => fun
  | [d1, d2, d3] => { results := [.lit (.bool true)], args := [d1, d2, d3] }
  | _ => none }
def cycleEachRow : OpenClaim := { program := "ytbkbeblogfakjaa", sum := "62c6df5a953f3b1c37b141f37e894415a27c86588704ed312e3f582b5bd1213b", func := "lombard/lombardlaw03.CycleEach", spec := "cycleEach", unfollowed := true, recurses := true, apart := false }
def CycleEachSaid : Prop := cycleEachRow.holds Try.pinned (OpenSpec.ofChange cycleEachSpec)

/-- ITS FALSE NEIGHBOUR: 'it returns false'. Refute it at one input. -/
def cycleEachWrong : ChangeSpec := { name := "cycleEach", fn := fun _ => fun
  | [d1, d2, d3] => { results := [.lit (.bool false)], args := [d1, d2, d3] }
  | _ => none }
def CycleEachWrongFalsely : Prop := cycleEachRow.holds Try.pinned (OpenSpec.ofChange cycleEachWrong)

/-- 'lombardlaw03.CycleRefused': WHATEVER THE INPUT: true; the input reads as it did. -/
def cycleRefusedSpec : ChangeSpec := { name := "cycleRefused", fn := fun _ => fun
  | [d1, d2] => { results := [.lit (.bool true)], args := [d1, d2] }
  | _ => none }
def cycleRefusedRow : OpenClaim := { program := "ytbkbeblogfakjaa", sum := "62c6df5a953f3b1c37b141f37e894415a27c86588704ed312e3f582b5bd1213b", func := "lombard/lombardlaw03.CycleRefused", spec := "cycleRefused", unfollowed := true, recurses := true, apart := false }
def CycleRefusedSaid : Prop := cycleRefusedRow.holds Try.pinned (OpenSpec.ofChange cycleRefusedSpec)

/-- ITS FALSE NEIGHBOUR: 'it returns false'. Refute it at one input. -/
def cycleRefusedWrong : ChangeSpec := { name := "cycleRefused", fn := fun _ => fun
  | [d1, d2] => { results := [.lit (.bool false)], args := [d1, d2] }
  | _ => none }
def CycleRefusedWrongFalsely : Prop := cycleRefusedRow.holds Try.pinned (OpenSpec.ofChange cycleRefusedWrong)

/- THE SECOND FORM. 'bulk': how many values and letters a reading holds, each counted each time it is reached (what is shared counts as often as it is met; a slice's spare places count too). A statement '..UptoSaid' is the law's where the arguments, and the package variables that the reading takes, are together of bulk at most 1048576: NARROWER than '..Said'. Prove '..Said' where nothing that the law and all that it calls make is longer than what came in: it says more and counts as full. Else prove '..UptoSaid'. A law counts once. -/
mutual
def uptoBulk {H : Type} : DataW H → Nat
  | .lit (.string bytes) => bytes.length + 1
  | .lit _ => 1
  | .nil => 1
  | .ptr d => uptoBulk d + 1
  | .slice elems spare => uptoBulkAll elems + uptoBulkAll spare + 1
  | .agg parts => uptoBulkAll parts + 1
  | .iface _ d => uptoBulk d + 1
  | .map entries => uptoBulkEntries entries + 1
  | .held _ => 1
def uptoBulkAll {H : Type} : List (DataW H) → Nat
  | [] => 0
  | d :: r => uptoBulk d + uptoBulkAll r
def uptoBulkEntries {H : Type} : List (Lit × DataW H) → Nat
  | [] => 0
  | x :: r => uptoBulkEntry x + uptoBulkEntries r
def uptoBulkEntry {H : Type} : Lit × DataW H → Nat
  | (.string bytes, d) => bytes.length + uptoBulk d + 1
  | (_, d) => uptoBulk d + 1
 end
def uptoSmall : (H : Type) → List (DataW H) → Bool := fun _ ds => decide (uptoBulkAll ds ≤ 1048576)
def OpenSpec.upto (s : _root_.Go.ChangeSpec) : _root_.Go.OpenSpec := { _root_.Go.OpenSpec.ofChange s with cond := some uptoSmall }

/-- 'lombardlaw02.DayYears', WHERE WHAT IT READS IS OF BULK AT MOST 1048576: true; the input reads as it did. -/
def dayYearsUptoRow : OpenClaim := { program := "ytbkbeblogfakjaa", sum := "62c6df5a953f3b1c37b141f37e894415a27c86588704ed312e3f582b5bd1213b", func := "lombard/lombardlaw02.DayYears", spec := "dayYears", apart := false, narrowed := true }
def DayYearsUptoSaid : Prop := dayYearsUptoRow.holds Try.pinned (OpenSpec.upto dayYearsSpec)

/-- 'lombardlaw02.DayMonths', WHERE WHAT IT READS IS OF BULK AT MOST 1048576: true; the input reads as it did. -/
def dayMonthsUptoRow : OpenClaim := { program := "ytbkbeblogfakjaa", sum := "62c6df5a953f3b1c37b141f37e894415a27c86588704ed312e3f582b5bd1213b", func := "lombard/lombardlaw02.DayMonths", spec := "dayMonths", apart := false, narrowed := true }
def DayMonthsUptoSaid : Prop := dayMonthsUptoRow.holds Try.pinned (OpenSpec.upto dayMonthsSpec)

/-- 'lombardlaw02.DayWeeks', WHERE WHAT IT READS IS OF BULK AT MOST 1048576: true; the input reads as it did. -/
def dayWeeksUptoRow : OpenClaim := { program := "ytbkbeblogfakjaa", sum := "62c6df5a953f3b1c37b141f37e894415a27c86588704ed312e3f582b5bd1213b", func := "lombard/lombardlaw02.DayWeeks", spec := "dayWeeks", apart := false, narrowed := true }
def DayWeeksUptoSaid : Prop := dayWeeksUptoRow.holds Try.pinned (OpenSpec.upto dayWeeksSpec)

/-- 'lombardlaw02.DayBack', WHERE WHAT IT READS IS OF BULK AT MOST 1048576: true; the input reads as it did. -/
def dayBackUptoRow : OpenClaim := { program := "ytbkbeblogfakjaa", sum := "62c6df5a953f3b1c37b141f37e894415a27c86588704ed312e3f582b5bd1213b", func := "lombard/lombardlaw02.DayBack", spec := "dayBack", apart := false, narrowed := true }
def DayBackUptoSaid : Prop := dayBackUptoRow.holds Try.pinned (OpenSpec.upto dayBackSpec)

/-- 'lombardlaw02.DayTells', WHERE WHAT IT READS IS OF BULK AT MOST 1048576: true; the input reads as it did. -/
def dayTellsUptoRow : OpenClaim := { program := "ytbkbeblogfakjaa", sum := "62c6df5a953f3b1c37b141f37e894415a27c86588704ed312e3f582b5bd1213b", func := "lombard/lombardlaw02.DayTells", spec := "dayTells", apart := false, narrowed := true }
def DayTellsUptoSaid : Prop := dayTellsUptoRow.holds Try.pinned (OpenSpec.upto dayTellsSpec)

/-- 'lombardlaw02.DayNext', WHERE WHAT IT READS IS OF BULK AT MOST 1048576: true; the input reads as it did. -/
def dayNextUptoRow : OpenClaim := { program := "ytbkbeblogfakjaa", sum := "62c6df5a953f3b1c37b141f37e894415a27c86588704ed312e3f582b5bd1213b", func := "lombard/lombardlaw02.DayNext", spec := "dayNext", apart := false, narrowed := true }
def DayNextUptoSaid : Prop := dayNextUptoRow.holds Try.pinned (OpenSpec.upto dayNextSpec)

/-- 'lombardlaw03.CycleEnds', WHERE WHAT IT READS IS OF BULK AT MOST 1048576: true; the input reads as it did. -/
def cycleEndsUptoRow : OpenClaim := { program := "ytbkbeblogfakjaa", sum := "62c6df5a953f3b1c37b141f37e894415a27c86588704ed312e3f582b5bd1213b", func := "lombard/lombardlaw03.CycleEnds", spec := "cycleEnds", apart := false, narrowed := true }
def CycleEndsUptoSaid : Prop := cycleEndsUptoRow.holds Try.pinned (OpenSpec.upto cycleEndsSpec)

/-- 'lombardlaw03.CycleFirst', WHERE WHAT IT READS IS OF BULK AT MOST 1048576: true; the input reads as it did. -/
def cycleFirstUptoRow : OpenClaim := { program := "ytbkbeblogfakjaa", sum := "62c6df5a953f3b1c37b141f37e894415a27c86588704ed312e3f582b5bd1213b", func := "lombard/lombardlaw03.CycleFirst", spec := "cycleFirst", unfollowed := true, recurses := true, apart := false, narrowed := true }
def CycleFirstUptoSaid : Prop := cycleFirstUptoRow.holds Try.pinned (OpenSpec.upto cycleFirstSpec)

/-- 'lombardlaw03.CycleTells', WHERE WHAT IT READS IS OF BULK AT MOST 1048576: true; the input reads as it did. -/
def cycleTellsUptoRow : OpenClaim := { program := "ytbkbeblogfakjaa", sum := "62c6df5a953f3b1c37b141f37e894415a27c86588704ed312e3f582b5bd1213b", func := "lombard/lombardlaw03.CycleTells", spec := "cycleTells", unfollowed := true, recurses := true, apart := false, narrowed := true }
def CycleTellsUptoSaid : Prop := cycleTellsUptoRow.holds Try.pinned (OpenSpec.upto cycleTellsSpec)

/-- 'lombardlaw03.CycleEach', WHERE WHAT IT READS IS OF BULK AT MOST 1048576: true; the input reads as it did. -/
def cycleEachUptoRow : OpenClaim := { program := "ytbkbeblogfakjaa", sum := "62c6df5a953f3b1c37b141f37e894415a27c86588704ed312e3f582b5bd1213b", func := "lombard/lombardlaw03.CycleEach", spec := "cycleEach", unfollowed := true, recurses := true, apart := false, narrowed := true }
def CycleEachUptoSaid : Prop := cycleEachUptoRow.holds Try.pinned (OpenSpec.upto cycleEachSpec)

/-- 'lombardlaw03.CycleRefused', WHERE WHAT IT READS IS OF BULK AT MOST 1048576: true; the input reads as it did. -/
def cycleRefusedUptoRow : OpenClaim := { program := "ytbkbeblogfakjaa", sum := "62c6df5a953f3b1c37b141f37e894415a27c86588704ed312e3f582b5bd1213b", func := "lombard/lombardlaw03.CycleRefused", spec := "cycleRefused", unfollowed := true, recurses := true, apart := false, narrowed := true }
def CycleRefusedUptoSaid : Prop := cycleRefusedUptoRow.holds Try.pinned (OpenSpec.upto cycleRefusedSpec)

end Rows
end Go.Proofs.Ytbkbeblogfakjaa
