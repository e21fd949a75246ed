/-
  No cell of these rows narrows 'for every input' (looked for: loops, veiled, ifaces, maps, wideKeys, modest, calm, conditions, laid).
  DERIVED. THE GIVEN ROWS OF THIS SEAT. 7 by the template 'for every input the law returns true; each argument reads behind the call as it read before'; 0 by the template 'total and deterministic' (their statements: YthblmgfbdkdkhaaTotals.lean).
  GIVEN WITH THE SEED: the statements are not yours to turn. If you find one false, say at which input.
  Laid BY PROGRAM, IN A SANDBOX (cutbox-rows.mjs): the forced cells as the released guide's own fill.sh prints them over the translation 7969df69747bd2d4… (all of the seat's roots in one cut). By AI agents, Wed Nov 11 2026. No macro, syntax, notation, axiom, sorry.
-/
import Derived.Test.YthblmgfbdkdkhaaChecked
import GoSem.Claim
import GoSem.ClaimJoined
import GoSem.ClaimMapViews
import Derived.JoinedTies
import Derived.KernelRfl
namespace Go.Proofs.Ythblmgfbdkdkhaa
/- THE CELL 'sum', in the pinned program and in every row, IS THE sha256 OF THE DUMP (.gsa) THAT YthblmgfbdkdkhaaProg.lean LOADS. Nothing in Lean hashes anything: it is a label: what it is worth is what the hold of that sum in a sandbox is worth. -/
noncomputable def Try.pinned : Pinned := { name := "ythblmgfbdkdkhaa", sum := "7969df69747bd2d4f8ca4793e1f3cbde6bae6e4f153abc72e26bbc711d7a3d74", checked := Try.checked }
namespace Rows
def none {H : Type} : Left H := { results := [], args := [] }

/-- 'lombardlaw05.AdlerSums': WHATEVER THE INPUT: true; the input reads as it did. -/
def adlerSumsSpec : ChangeSpec := { name := "adlerSums", fn := fun _ => fun
  | [d1, d2] => { results := [.lit (.bool true)], args := [d1, d2] }
  | _ => none }
def adlerSumsRow : OpenClaim := { program := "ythblmgfbdkdkhaa", sum := "7969df69747bd2d4f8ca4793e1f3cbde6bae6e4f153abc72e26bbc711d7a3d74", func := "lombard/lombardlaw05.AdlerSums", spec := "adlerSums", unfollowed := true, recurses := true, apart := false }
def AdlerSumsSaid : Prop := adlerSumsRow.holds Try.pinned (OpenSpec.ofChange adlerSumsSpec)

/-- ITS FALSE NEIGHBOUR: 'it returns false'. Refute it at one input. -/
def adlerSumsWrong : ChangeSpec := { name := "adlerSums", fn := fun _ => fun
  | [d1, d2] => { results := [.lit (.bool false)], args := [d1, d2] }
  | _ => none }
def AdlerSumsWrongFalsely : Prop := adlerSumsRow.holds Try.pinned (OpenSpec.ofChange adlerSumsWrong)

/-- 'lombardlaw05.AdlerLong': WHATEVER THE INPUT: true; the input reads as it did. -/
def adlerLongSpec : ChangeSpec := { name := "adlerLong", fn := fun _ => fun
  | [d1, d2] => { results := [.lit (.bool true)], args := [d1, d2] }
  | _ => none }
def adlerLongRow : OpenClaim := { program := "ythblmgfbdkdkhaa", sum := "7969df69747bd2d4f8ca4793e1f3cbde6bae6e4f153abc72e26bbc711d7a3d74", func := "lombard/lombardlaw05.AdlerLong", spec := "adlerLong", apart := false }
def AdlerLongSaid : Prop := adlerLongRow.holds Try.pinned (OpenSpec.ofChange adlerLongSpec)

/-- ITS FALSE NEIGHBOUR: 'it returns false'. Refute it at one input. -/
def adlerLongWrong : ChangeSpec := { name := "adlerLong", fn := fun _ => fun
  | [d1, d2] => { results := [.lit (.bool false)], args := [d1, d2] }
  | _ => none }
def AdlerLongWrongFalsely : Prop := adlerLongRow.holds Try.pinned (OpenSpec.ofChange adlerLongWrong)

/-- 'lombardlaw05.AdlerParts': WHATEVER THE INPUT: true; the input reads as it did. -/
def adlerPartsSpec : ChangeSpec := { name := "adlerParts", fn := fun _ => fun
  | [d1, d2] => { results := [.lit (.bool true)], args := [d1, d2] }
  | _ => none }
def adlerPartsRow : OpenClaim := { program := "ythblmgfbdkdkhaa", sum := "7969df69747bd2d4f8ca4793e1f3cbde6bae6e4f153abc72e26bbc711d7a3d74", func := "lombard/lombardlaw05.AdlerParts", spec := "adlerParts", apart := false }
def AdlerPartsSaid : Prop := adlerPartsRow.holds Try.pinned (OpenSpec.ofChange adlerPartsSpec)

/-- ITS FALSE NEIGHBOUR: 'it returns false'. Refute it at one input. -/
def adlerPartsWrong : ChangeSpec := { name := "adlerParts", fn := fun _ => fun
  | [d1, d2] => { results := [.lit (.bool false)], args := [d1, d2] }
  | _ => none }
def AdlerPartsWrongFalsely : Prop := adlerPartsRow.holds Try.pinned (OpenSpec.ofChange adlerPartsWrong)

/-- 'lombardlaw05.AdlerStep': WHATEVER THE INPUT: true; the input reads as it did. -/
def adlerStepSpec : ChangeSpec := { name := "adlerStep", fn := fun _ => fun
  | [d1, d2, d3] => { results := [.lit (.bool true)], args := [d1, d2, d3] }
  | _ => none }
def adlerStepRow : OpenClaim := { program := "ythblmgfbdkdkhaa", sum := "7969df69747bd2d4f8ca4793e1f3cbde6bae6e4f153abc72e26bbc711d7a3d74", func := "lombard/lombardlaw05.AdlerStep", spec := "adlerStep", apart := false }
def AdlerStepSaid : Prop := adlerStepRow.holds Try.pinned (OpenSpec.ofChange adlerStepSpec)

/-- ITS FALSE NEIGHBOUR: 'it returns false'. Refute it at one input. -/
def adlerStepWrong : ChangeSpec := { name := "adlerStep", fn := fun _ => fun
  | [d1, d2, d3] => { results := [.lit (.bool false)], args := [d1, d2, d3] }
  | _ => none }
def AdlerStepWrongFalsely : Prop := adlerStepRow.holds Try.pinned (OpenSpec.ofChange adlerStepWrong)

/-- 'lombardlaw14.GraceTells': WHATEVER THE INPUT: true; the input reads as it did. -/
def graceTellsSpec : ChangeSpec := { name := "graceTells", fn := fun _ => fun
  | [d1, d2, d3, d4] => { results := [.lit (.bool true)], args := [d1, d2, d3, d4] }
  | _ => none }
def graceTellsRow : OpenClaim := { program := "ythblmgfbdkdkhaa", sum := "7969df69747bd2d4f8ca4793e1f3cbde6bae6e4f153abc72e26bbc711d7a3d74", func := "lombard/lombardlaw14.GraceTells", spec := "graceTells", unfollowed := true, recurses := true, apart := false }
def GraceTellsSaid : Prop := graceTellsRow.holds Try.pinned (OpenSpec.ofChange graceTellsSpec)

/-- ITS FALSE NEIGHBOUR: 'it returns false'. Refute it at one input. -/
def graceTellsWrong : ChangeSpec := { name := "graceTells", fn := fun _ => fun
  | [d1, d2, d3, d4] => { results := [.lit (.bool false)], args := [d1, d2, d3, d4] }
  | _ => none }
def GraceTellsWrongFalsely : Prop := graceTellsRow.holds Try.pinned (OpenSpec.ofChange graceTellsWrong)

/-- 'lombardlaw14.GraceEdges': WHATEVER THE INPUT: true; the input reads as it did. -/
def graceEdgesSpec : ChangeSpec := { name := "graceEdges", fn := fun _ => fun
  | [d1, d2, d3, d4, d5, d6] => { results := [.lit (.bool true)], args := [d1, d2, d3, d4, d5, d6] }
  | _ => none }
def graceEdgesRow : OpenClaim := { program := "ythblmgfbdkdkhaa", sum := "7969df69747bd2d4f8ca4793e1f3cbde6bae6e4f153abc72e26bbc711d7a3d74", func := "lombard/lombardlaw14.GraceEdges", spec := "graceEdges", apart := false }
def GraceEdgesSaid : Prop := graceEdgesRow.holds Try.pinned (OpenSpec.ofChange graceEdgesSpec)

/-- ITS FALSE NEIGHBOUR: 'it returns false'. Refute it at one input. -/
def graceEdgesWrong : ChangeSpec := { name := "graceEdges", fn := fun _ => fun
  | [d1, d2, d3, d4, d5, d6] => { results := [.lit (.bool false)], args := [d1, d2, d3, d4, d5, d6] }
  | _ => none }
def GraceEdgesWrongFalsely : Prop := graceEdgesRow.holds Try.pinned (OpenSpec.ofChange graceEdgesWrong)

/-- 'lombardlaw14.GraceParts': WHATEVER THE INPUT: true; the input reads as it did. -/
def gracePartsSpec : ChangeSpec := { name := "graceParts", fn := fun _ => fun
  | [d1, d2, d3] => { results := [.lit (.bool true)], args := [d1, d2, d3] }
  | _ => none }
def gracePartsRow : OpenClaim := { program := "ythblmgfbdkdkhaa", sum := "7969df69747bd2d4f8ca4793e1f3cbde6bae6e4f153abc72e26bbc711d7a3d74", func := "lombard/lombardlaw14.GraceParts", spec := "graceParts", apart := false }
def GracePartsSaid : Prop := gracePartsRow.holds Try.pinned (OpenSpec.ofChange gracePartsSpec)

/-- ITS FALSE NEIGHBOUR: 'it returns false'. Refute it at one input. -/
def gracePartsWrong : ChangeSpec := { name := "graceParts", fn := fun _ => fun
  | [d1, d2, d3] => { results := [.lit (.bool false)], args := [d1, d2, d3] }
  | _ => none }
def GracePartsWrongFalsely : Prop := gracePartsRow.holds Try.pinned (OpenSpec.ofChange gracePartsWrong)

/- THE SECOND FORM. 'bulk': how many values and letters a reading holds, each counted each time it is reached (what is shared counts as often as it is met; a slice's spare places count too). A statement '..UptoSaid' is the law's where the arguments, and the package variables that the reading takes, are together of bulk at most 1048576: NARROWER than '..Said'. Prove '..Said' where nothing that the law and all that it calls make is longer than what came in: it says more and counts as full. Else prove '..UptoSaid'. A law counts once. -/
mutual
def uptoBulk {H : Type} : DataW H → Nat
  | .lit (.string bytes) => bytes.length + 1
  | .lit _ => 1
  | .nil => 1
  | .ptr d => uptoBulk d + 1
  | .slice elems spare => uptoBulkAll elems + uptoBulkAll spare + 1
  | .agg parts => uptoBulkAll parts + 1
  | .iface _ d => uptoBulk d + 1
  | .map entries => uptoBulkEntries entries + 1
  | .held _ => 1
def uptoBulkAll {H : Type} : List (DataW H) → Nat
  | [] => 0
  | d :: r => uptoBulk d + uptoBulkAll r
def uptoBulkEntries {H : Type} : List (Lit × DataW H) → Nat
  | [] => 0
  | x :: r => uptoBulkEntry x + uptoBulkEntries r
def uptoBulkEntry {H : Type} : Lit × DataW H → Nat
  | (.string bytes, d) => bytes.length + uptoBulk d + 1
  | (_, d) => uptoBulk d + 1
 end
def uptoSmall : (H : Type) → List (DataW H) → Bool := fun _ ds => decide (uptoBulkAll ds ≤ 1048576)
def OpenSpec.upto (s : _root_.Go.ChangeSpec) : _root_.Go.OpenSpec := { _root_.Go.OpenSpec.ofChange s with cond := some uptoSmall }

/-- 'lombardlaw05.AdlerSums', WHERE WHAT IT READS IS OF BULK AT MOST 1048576: true; the input reads as it did. -/
def adlerSumsUptoRow : OpenClaim := { program := "ythblmgfbdkdkhaa", sum := "7969df69747bd2d4f8ca4793e1f3cbde6bae6e4f153abc72e26bbc711d7a3d74", func := "lombard/lombardlaw05.AdlerSums", spec := "adlerSums", unfollowed := true, recurses := true, apart := false, narrowed := true }
def AdlerSumsUptoSaid : Prop := adlerSumsUptoRow.holds Try.pinned (OpenSpec.upto adlerSumsSpec)

/-- 'lombardlaw05.AdlerLong', WHERE WHAT IT READS IS OF BULK AT MOST 1048576: true; the input reads as it did. -/
def adlerLongUptoRow : OpenClaim := { program := "ythblmgfbdkdkhaa", sum := "7969df69747bd2d4f8ca4793e1f3cbde6bae6e4f153abc72e26bbc711d7a3d74", func := "lombard/lombardlaw05.AdlerLong", spec := "adlerLong", apart := false, narrowed := true }
def AdlerLongUptoSaid : Prop := adlerLongUptoRow.holds Try.pinned (OpenSpec.upto adlerLongSpec)

/-- 'lombardlaw05.AdlerParts', WHERE WHAT IT READS IS OF BULK AT MOST 1048576: true; the input reads as it did. -/
def adlerPartsUptoRow : OpenClaim := { program := "ythblmgfbdkdkhaa", sum := "7969df69747bd2d4f8ca4793e1f3cbde6bae6e4f153abc72e26bbc711d7a3d74", func := "lombard/lombardlaw05.AdlerParts", spec := "adlerParts", apart := false, narrowed := true }
def AdlerPartsUptoSaid : Prop := adlerPartsUptoRow.holds Try.pinned (OpenSpec.upto adlerPartsSpec)

/-- 'lombardlaw05.AdlerStep', WHERE WHAT IT READS IS OF BULK AT MOST 1048576: true; the input reads as it did. -/
def adlerStepUptoRow : OpenClaim := { program := "ythblmgfbdkdkhaa", sum := "7969df69747bd2d4f8ca4793e1f3cbde6bae6e4f153abc72e26bbc711d7a3d74", func := "lombard/lombardlaw05.AdlerStep", spec := "adlerStep", apart := false, narrowed := true }
def AdlerStepUptoSaid : Prop := adlerStepUptoRow.holds Try.pinned (OpenSpec.upto adlerStepSpec)

/-- 'lombardlaw14.GraceTells', WHERE WHAT IT READS IS OF BULK AT MOST 1048576: true; the input reads as it did. -/
def graceTellsUptoRow : OpenClaim := { program := "ythblmgfbdkdkhaa", sum := "7969df69747bd2d4f8ca4793e1f3cbde6bae6e4f153abc72e26bbc711d7a3d74", func := "lombard/lombardlaw14.GraceTells", spec := "graceTells", unfollowed := true, recurses := true, apart := false, narrowed := true }
def GraceTellsUptoSaid : Prop := graceTellsUptoRow.holds Try.pinned (OpenSpec.upto graceTellsSpec)

/-- 'lombardlaw14.GraceEdges', WHERE WHAT IT READS IS OF BULK AT MOST 1048576: true; the input reads as it did. -/
def graceEdgesUptoRow : OpenClaim := { program := "ythblmgfbdkdkhaa", sum := "7969df69747bd2d4f8ca4793e1f3cbde6bae6e4f153abc72e26bbc711d7a3d74", func := "lombard/lombardlaw14.GraceEdges", spec := "graceEdges", apart := false, narrowed := true }
def GraceEdgesUptoSaid : Prop := graceEdgesUptoRow.holds Try.pinned (OpenSpec.upto graceEdgesSpec)

/-- 'lombardlaw14.GraceParts', WHERE WHAT IT READS IS OF BULK AT MOST 1048576: true; the input reads as it did. -/
def gracePartsUptoRow : OpenClaim := { program := "ythblmgfbdkdkhaa", sum := "7969df69747bd2d4f8ca4793e1f3cbde6bae6e4f153abc72e26bbc711d7a3d74", func := "lombard/lombardlaw14.GraceParts", spec := "graceParts", apart := false, narrowed := true }
def GracePartsUptoSaid : Prop := gracePartsUptoRow.holds Try.pinned (OpenSpec.upto gracePartsSpec)

end Rows
end Go.Proofs.Ythblmgfbdkdkhaa
