/-
  No cell of these rows narrows 'for every input' (looked for: loops, veiled, ifaces, maps, wideKeys, modest, calm, conditions, laid).
  DERIVED. THE GIVEN ROWS OF THIS SEAT. 12 by the template 'for every input the law returns true; each argument reads behind the call as it read before'; 0 by the template 'total and deterministic' (their statements: YtdjkkpefljapcaaTotals.lean).
  GIVEN WITH THE SEED: the statements are not yours to turn. If you find one false, say at which input.
  Laid BY PROGRAM, IN A SANDBOX (cutbox-rows.mjs): the forced cells as the released guide's own fill.sh prints them over the translation a81630cbbc936678… (all of the seat's roots in one cut). By AI agents, Wed Nov 11 2026. No macro, syntax, notation, axiom, sorry.
-/
import Derived.Test.YtdjkkpefljapcaaChecked
import GoSem.Claim
import GoSem.ClaimJoined
import GoSem.ClaimMapViews
import Derived.JoinedTies
import Derived.KernelRfl
namespace Go.Proofs.Ytdjkkpefljapcaa
/- THE CELL 'sum', in the pinned program and in every row, IS THE sha256 OF THE DUMP (.gsa) THAT YtdjkkpefljapcaaProg.lean LOADS. Nothing in Lean hashes anything: it is a label: what it is worth is what the hold of that sum in a sandbox is worth. -/
noncomputable def Try.pinned : Pinned := { name := "ytdjkkpefljapcaa", sum := "a81630cbbc93667823e28f5bd04b6bd57f8e291896b47454c1da9e686ee27852", checked := Try.checked }
namespace Rows
def none {H : Type} : Left H := { results := [], args := [] }

/-- 'lombardlaw23.LeafOutside': WHATEVER THE INPUT: true; the input reads as it did. -/
def leafOutsideSpec : ChangeSpec := { name := "leafOutside", fn := fun _ => fun
  | [d1, d2] => { results := [.lit (.bool true)], args := [d1, d2] }
  | _ => none }
def leafOutsideRow : OpenClaim := { program := "ytdjkkpefljapcaa", sum := "a81630cbbc93667823e28f5bd04b6bd57f8e291896b47454c1da9e686ee27852", func := "lombard/lombardlaw23.LeafOutside", spec := "leafOutside", unfollowed := true, recurses := true, apart := false }
def LeafOutsideSaid : Prop := leafOutsideRow.holds Try.pinned (OpenSpec.ofChange leafOutsideSpec)

/-- ITS FALSE NEIGHBOUR: 'it returns false'. Refute it at one input. -/
def leafOutsideWrong : ChangeSpec := { name := "leafOutside", fn := fun _ => fun
  | [d1, d2] => { results := [.lit (.bool false)], args := [d1, d2] }
  | _ => none }
def LeafOutsideWrongFalsely : Prop := leafOutsideRow.holds Try.pinned (OpenSpec.ofChange leafOutsideWrong)

/-- 'lombardlaw23.LeafKeeps': WHATEVER THE INPUT: true; the input reads as it did. -/
def leafKeepsSpec : ChangeSpec := { name := "leafKeeps", fn := fun _ => fun
  | [d1, d2] => { results := [.lit (.bool true)], args := [d1, d2] }
  | _ => none }
def leafKeepsRow : OpenClaim := { program := "ytdjkkpefljapcaa", sum := "a81630cbbc93667823e28f5bd04b6bd57f8e291896b47454c1da9e686ee27852", func := "lombard/lombardlaw23.LeafKeeps", spec := "leafKeeps", unfollowed := true, recurses := true, apart := false }
def LeafKeepsSaid : Prop := leafKeepsRow.holds Try.pinned (OpenSpec.ofChange leafKeepsSpec)

/-- ITS FALSE NEIGHBOUR: 'it returns false'. Refute it at one input. -/
def leafKeepsWrong : ChangeSpec := { name := "leafKeeps", fn := fun _ => fun
  | [d1, d2] => { results := [.lit (.bool false)], args := [d1, d2] }
  | _ => none }
def LeafKeepsWrongFalsely : Prop := leafKeepsRow.holds Try.pinned (OpenSpec.ofChange leafKeepsWrong)

/-- 'lombardlaw23.LeafTorn': WHATEVER THE INPUT: true; the input reads as it did. -/
def leafTornSpec : ChangeSpec := { name := "leafTorn", fn := fun _ => fun
  | [d1, d2, d3] => { results := [.lit (.bool true)], args := [d1, d2, d3] }
  | _ => none }
def leafTornRow : OpenClaim := { program := "ytdjkkpefljapcaa", sum := "a81630cbbc93667823e28f5bd04b6bd57f8e291896b47454c1da9e686ee27852", func := "lombard/lombardlaw23.LeafTorn", spec := "leafTorn", unfollowed := true, recurses := true, apart := false }
def LeafTornSaid : Prop := leafTornRow.holds Try.pinned (OpenSpec.ofChange leafTornSpec)

/-- ITS FALSE NEIGHBOUR: 'it returns false'. Refute it at one input. -/
def leafTornWrong : ChangeSpec := { name := "leafTorn", fn := fun _ => fun
  | [d1, d2, d3] => { results := [.lit (.bool false)], args := [d1, d2, d3] }
  | _ => none }
def LeafTornWrongFalsely : Prop := leafTornRow.holds Try.pinned (OpenSpec.ofChange leafTornWrong)

/-- 'lombardlaw23.LeafOnce': WHATEVER THE INPUT: true; the input reads as it did. -/
def leafOnceSpec : ChangeSpec := { name := "leafOnce", fn := fun _ => fun
  | [d1, d2, d3, d4] => { results := [.lit (.bool true)], args := [d1, d2, d3, d4] }
  | _ => none }
def leafOnceRow : OpenClaim := { program := "ytdjkkpefljapcaa", sum := "a81630cbbc93667823e28f5bd04b6bd57f8e291896b47454c1da9e686ee27852", func := "lombard/lombardlaw23.LeafOnce", spec := "leafOnce", unfollowed := true, recurses := true, apart := false }
def LeafOnceSaid : Prop := leafOnceRow.holds Try.pinned (OpenSpec.ofChange leafOnceSpec)

/-- ITS FALSE NEIGHBOUR: 'it returns false'. Refute it at one input. -/
def leafOnceWrong : ChangeSpec := { name := "leafOnce", fn := fun _ => fun
  | [d1, d2, d3, d4] => { results := [.lit (.bool false)], args := [d1, d2, d3, d4] }
  | _ => none }
def LeafOnceWrongFalsely : Prop := leafOnceRow.holds Try.pinned (OpenSpec.ofChange leafOnceWrong)

/-- 'lombardlaw23.LeafNil': WHATEVER THE INPUT: true; the input reads as it did. -/
def leafNilSpec : ChangeSpec := { name := "leafNil", fn := fun _ => fun
  | [d1, d2] => { results := [.lit (.bool true)], args := [d1, d2] }
  | _ => none }
def leafNilRow : OpenClaim := { program := "ytdjkkpefljapcaa", sum := "a81630cbbc93667823e28f5bd04b6bd57f8e291896b47454c1da9e686ee27852", func := "lombard/lombardlaw23.LeafNil", spec := "leafNil", unfollowed := true, recurses := true, apart := false }
def LeafNilSaid : Prop := leafNilRow.holds Try.pinned (OpenSpec.ofChange leafNilSpec)

/-- ITS FALSE NEIGHBOUR: 'it returns false'. Refute it at one input. -/
def leafNilWrong : ChangeSpec := { name := "leafNil", fn := fun _ => fun
  | [d1, d2] => { results := [.lit (.bool false)], args := [d1, d2] }
  | _ => none }
def LeafNilWrongFalsely : Prop := leafNilRow.holds Try.pinned (OpenSpec.ofChange leafNilWrong)

/-- 'lombardlaw24.JournalPages': WHATEVER THE INPUT: true; the input reads as it did. -/
def journalPagesSpec : ChangeSpec := { name := "journalPages", fn := fun _ => fun
  | [d1, d2, d3, d4, d5] => { results := [.lit (.bool true)], args := [d1, d2, d3, d4, d5] }
  | _ => none }
def journalPagesRow : OpenClaim := { program := "ytdjkkpefljapcaa", sum := "a81630cbbc93667823e28f5bd04b6bd57f8e291896b47454c1da9e686ee27852", func := "lombard/lombardlaw24.JournalPages", spec := "journalPages", unfollowed := true, recurses := true, apart := false }
def JournalPagesSaid : Prop := journalPagesRow.holds Try.pinned (OpenSpec.ofChange journalPagesSpec)

/-- ITS FALSE NEIGHBOUR: 'it returns false'. Refute it at one input. -/
def journalPagesWrong : ChangeSpec := { name := "journalPages", fn := fun _ => fun
  | [d1, d2, d3, d4, d5] => { results := [.lit (.bool false)], args := [d1, d2, d3, d4, d5] }
  | _ => none }
def JournalPagesWrongFalsely : Prop := journalPagesRow.holds Try.pinned (OpenSpec.ofChange journalPagesWrong)

/-- 'lombardlaw24.JournalBack': WHATEVER THE INPUT: true; the input reads as it did. -/
def journalBackSpec : ChangeSpec := { name := "journalBack", fn := fun _ => fun
  | [d1, d2, d3, d4, d5, d6, d7] => { results := [.lit (.bool true)], args := [d1, d2, d3, d4, d5, d6, d7] }
  | _ => none }
def journalBackRow : OpenClaim := { program := "ytdjkkpefljapcaa", sum := "a81630cbbc93667823e28f5bd04b6bd57f8e291896b47454c1da9e686ee27852", func := "lombard/lombardlaw24.JournalBack", spec := "journalBack", unfollowed := true, recurses := true, apart := false }
def JournalBackSaid : Prop := journalBackRow.holds Try.pinned (OpenSpec.ofChange journalBackSpec)

/-- ITS FALSE NEIGHBOUR: 'it returns false'. Refute it at one input. -/
def journalBackWrong : ChangeSpec := { name := "journalBack", fn := fun _ => fun
  | [d1, d2, d3, d4, d5, d6, d7] => { results := [.lit (.bool false)], args := [d1, d2, d3, d4, d5, d6, d7] }
  | _ => none }
def JournalBackWrongFalsely : Prop := journalBackRow.holds Try.pinned (OpenSpec.ofChange journalBackWrong)

/-- 'lombardlaw24.JournalNil': WHATEVER THE INPUT: true; the input reads as it did. -/
def journalNilSpec : ChangeSpec := { name := "journalNil", fn := fun _ => fun
  | [d] => { results := [.lit (.bool true)], args := [d] }
  | _ => none }
def journalNilRow : OpenClaim := { program := "ytdjkkpefljapcaa", sum := "a81630cbbc93667823e28f5bd04b6bd57f8e291896b47454c1da9e686ee27852", func := "lombard/lombardlaw24.JournalNil", spec := "journalNil", unfollowed := true, recurses := true, apart := false }
def JournalNilSaid : Prop := journalNilRow.holds Try.pinned (OpenSpec.ofChange journalNilSpec)

/-- ITS FALSE NEIGHBOUR: 'it returns false'. Refute it at one input. -/
def journalNilWrong : ChangeSpec := { name := "journalNil", fn := fun _ => fun
  | [d] => { results := [.lit (.bool false)], args := [d] }
  | _ => none }
def JournalNilWrongFalsely : Prop := journalNilRow.holds Try.pinned (OpenSpec.ofChange journalNilWrong)

/-- 'lombardlaw24.JournalLeaves': WHATEVER THE INPUT: true; the input reads as it did. -/
def journalLeavesSpec : ChangeSpec := { name := "journalLeaves", fn := fun _ => fun
  | [d] => { results := [.lit (.bool true)], args := [d] }
  | _ => none }
def journalLeavesRow : OpenClaim := { program := "ytdjkkpefljapcaa", sum := "a81630cbbc93667823e28f5bd04b6bd57f8e291896b47454c1da9e686ee27852", func := "lombard/lombardlaw24.JournalLeaves", spec := "journalLeaves", unfollowed := true, recurses := true, apart := false }
def JournalLeavesSaid : Prop := journalLeavesRow.holds Try.pinned (OpenSpec.ofChange journalLeavesSpec)

/-- ITS FALSE NEIGHBOUR: 'it returns false'. Refute it at one input. -/
def journalLeavesWrong : ChangeSpec := { name := "journalLeaves", fn := fun _ => fun
  | [d] => { results := [.lit (.bool false)], args := [d] }
  | _ => none }
def JournalLeavesWrongFalsely : Prop := journalLeavesRow.holds Try.pinned (OpenSpec.ofChange journalLeavesWrong)

/-- 'lombardlaw24.JournalFull': WHATEVER THE INPUT: true; the input reads as it did. -/
def journalFullSpec : ChangeSpec := { name := "journalFull", fn := fun _ => fun
  | [d1, d2] => { results := [.lit (.bool true)], args := [d1, d2] }
  | _ => none }
def journalFullRow : OpenClaim := { program := "ytdjkkpefljapcaa", sum := "a81630cbbc93667823e28f5bd04b6bd57f8e291896b47454c1da9e686ee27852", func := "lombard/lombardlaw24.JournalFull", spec := "journalFull", unfollowed := true, recurses := true, apart := false }
def JournalFullSaid : Prop := journalFullRow.holds Try.pinned (OpenSpec.ofChange journalFullSpec)

/-- ITS FALSE NEIGHBOUR: 'it returns false'. Refute it at one input. -/
def journalFullWrong : ChangeSpec := { name := "journalFull", fn := fun _ => fun
  | [d1, d2] => { results := [.lit (.bool false)], args := [d1, d2] }
  | _ => none }
def JournalFullWrongFalsely : Prop := journalFullRow.holds Try.pinned (OpenSpec.ofChange journalFullWrong)

/-- 'lombardlaw24.JournalPlays': WHATEVER THE INPUT: true; the input reads as it did. -/
def journalPlaysSpec : ChangeSpec := { name := "journalPlays", fn := fun _ => fun
  | [d1, d2] => { results := [.lit (.bool true)], args := [d1, d2] }
  | _ => none }
def journalPlaysRow : OpenClaim := { program := "ytdjkkpefljapcaa", sum := "a81630cbbc93667823e28f5bd04b6bd57f8e291896b47454c1da9e686ee27852", func := "lombard/lombardlaw24.JournalPlays", spec := "journalPlays", unfollowed := true, recurses := true, apart := false }
def JournalPlaysSaid : Prop := journalPlaysRow.holds Try.pinned (OpenSpec.ofChange journalPlaysSpec)

/-- ITS FALSE NEIGHBOUR: 'it returns false'. Refute it at one input. -/
def journalPlaysWrong : ChangeSpec := { name := "journalPlays", fn := fun _ => fun
  | [d1, d2] => { results := [.lit (.bool false)], args := [d1, d2] }
  | _ => none }
def JournalPlaysWrongFalsely : Prop := journalPlaysRow.holds Try.pinned (OpenSpec.ofChange journalPlaysWrong)

/-- 'lombardlaw24.JournalTorn': WHATEVER THE INPUT: true; the input reads as it did. -/
def journalTornSpec : ChangeSpec := { name := "journalTorn", fn := fun _ => fun
  | [d1, d2, d3, d4] => { results := [.lit (.bool true)], args := [d1, d2, d3, d4] }
  | _ => none }
def journalTornRow : OpenClaim := { program := "ytdjkkpefljapcaa", sum := "a81630cbbc93667823e28f5bd04b6bd57f8e291896b47454c1da9e686ee27852", func := "lombard/lombardlaw24.JournalTorn", spec := "journalTorn", unfollowed := true, recurses := true, apart := false }
def JournalTornSaid : Prop := journalTornRow.holds Try.pinned (OpenSpec.ofChange journalTornSpec)

/-- ITS FALSE NEIGHBOUR: 'it returns false'. Refute it at one input. -/
def journalTornWrong : ChangeSpec := { name := "journalTorn", fn := fun _ => fun
  | [d1, d2, d3, d4] => { results := [.lit (.bool false)], args := [d1, d2, d3, d4] }
  | _ => none }
def JournalTornWrongFalsely : Prop := journalTornRow.holds Try.pinned (OpenSpec.ofChange journalTornWrong)

/- THE SECOND FORM. 'bulk': how many values and letters a reading holds, each counted each time it is reached (what is shared counts as often as it is met; a slice's spare places count too). A statement '..UptoSaid' is the law's where the arguments, and the package variables that the reading takes, are together of bulk at most 1048576: NARROWER than '..Said'. Prove '..Said' where nothing that the law and all that it calls make is longer than what came in: it says more and counts as full. Else prove '..UptoSaid'. A law counts once. -/
mutual
def uptoBulk {H : Type} : DataW H → Nat
  | .lit (.string bytes) => bytes.length + 1
  | .lit _ => 1
  | .nil => 1
  | .ptr d => uptoBulk d + 1
  | .slice elems spare => uptoBulkAll elems + uptoBulkAll spare + 1
  | .agg parts => uptoBulkAll parts + 1
  | .iface _ d => uptoBulk d + 1
  | .map entries => uptoBulkEntries entries + 1
  | .held _ => 1
def uptoBulkAll {H : Type} : List (DataW H) → Nat
  | [] => 0
  | d :: r => uptoBulk d + uptoBulkAll r
def uptoBulkEntries {H : Type} : List (Lit × DataW H) → Nat
  | [] => 0
  | x :: r => uptoBulkEntry x + uptoBulkEntries r
def uptoBulkEntry {H : Type} : Lit × DataW H → Nat
  | (.string bytes, d) => bytes.length + uptoBulk d + 1
  | (_, d) => uptoBulk d + 1
 end
def uptoSmall : (H : Type) → List (DataW H) → Bool := fun _ ds => decide (uptoBulkAll ds ≤ 1048576)
def OpenSpec.upto (s : _root_.Go.ChangeSpec) : _root_.Go.OpenSpec := { _root_.Go.OpenSpec.ofChange s with cond := some uptoSmall }

/-- 'lombardlaw23.LeafOutside', WHERE WHAT IT READS IS OF BULK AT MOST 1048576: true; the input reads as it did. -/
def leafOutsideUptoRow : OpenClaim := { program := "ytdjkkpefljapcaa", sum := "a81630cbbc93667823e28f5bd04b6bd57f8e291896b47454c1da9e686ee27852", func := "lombard/lombardlaw23.LeafOutside", spec := "leafOutside", unfollowed := true, recurses := true, apart := false, narrowed := true }
def LeafOutsideUptoSaid : Prop := leafOutsideUptoRow.holds Try.pinned (OpenSpec.upto leafOutsideSpec)

/-- 'lombardlaw23.LeafKeeps', WHERE WHAT IT READS IS OF BULK AT MOST 1048576: true; the input reads as it did. -/
def leafKeepsUptoRow : OpenClaim := { program := "ytdjkkpefljapcaa", sum := "a81630cbbc93667823e28f5bd04b6bd57f8e291896b47454c1da9e686ee27852", func := "lombard/lombardlaw23.LeafKeeps", spec := "leafKeeps", unfollowed := true, recurses := true, apart := false, narrowed := true }
def LeafKeepsUptoSaid : Prop := leafKeepsUptoRow.holds Try.pinned (OpenSpec.upto leafKeepsSpec)

/-- 'lombardlaw23.LeafTorn', WHERE WHAT IT READS IS OF BULK AT MOST 1048576: true; the input reads as it did. -/
def leafTornUptoRow : OpenClaim := { program := "ytdjkkpefljapcaa", sum := "a81630cbbc93667823e28f5bd04b6bd57f8e291896b47454c1da9e686ee27852", func := "lombard/lombardlaw23.LeafTorn", spec := "leafTorn", unfollowed := true, recurses := true, apart := false, narrowed := true }
def LeafTornUptoSaid : Prop := leafTornUptoRow.holds Try.pinned (OpenSpec.upto leafTornSpec)

/-- 'lombardlaw23.LeafOnce', WHERE WHAT IT READS IS OF BULK AT MOST 1048576: true; the input reads as it did. -/
def leafOnceUptoRow : OpenClaim := { program := "ytdjkkpefljapcaa", sum := "a81630cbbc93667823e28f5bd04b6bd57f8e291896b47454c1da9e686ee27852", func := "lombard/lombardlaw23.LeafOnce", spec := "leafOnce", unfollowed := true, recurses := true, apart := false, narrowed := true }
def LeafOnceUptoSaid : Prop := leafOnceUptoRow.holds Try.pinned (OpenSpec.upto leafOnceSpec)

/-- 'lombardlaw23.LeafNil', WHERE WHAT IT READS IS OF BULK AT MOST 1048576: true; the input reads as it did. -/
def leafNilUptoRow : OpenClaim := { program := "ytdjkkpefljapcaa", sum := "a81630cbbc93667823e28f5bd04b6bd57f8e291896b47454c1da9e686ee27852", func := "lombard/lombardlaw23.LeafNil", spec := "leafNil", unfollowed := true, recurses := true, apart := false, narrowed := true }
def LeafNilUptoSaid : Prop := leafNilUptoRow.holds Try.pinned (OpenSpec.upto leafNilSpec)

/-- 'lombardlaw24.JournalPages', WHERE WHAT IT READS IS OF BULK AT MOST 1048576: true; the input reads as it did. -/
def journalPagesUptoRow : OpenClaim := { program := "ytdjkkpefljapcaa", sum := "a81630cbbc93667823e28f5bd04b6bd57f8e291896b47454c1da9e686ee27852", func := "lombard/lombardlaw24.JournalPages", spec := "journalPages", unfollowed := true, recurses := true, apart := false, narrowed := true }
def JournalPagesUptoSaid : Prop := journalPagesUptoRow.holds Try.pinned (OpenSpec.upto journalPagesSpec)

/-- 'lombardlaw24.JournalBack', WHERE WHAT IT READS IS OF BULK AT MOST 1048576: true; the input reads as it did. -/
def journalBackUptoRow : OpenClaim := { program := "ytdjkkpefljapcaa", sum := "a81630cbbc93667823e28f5bd04b6bd57f8e291896b47454c1da9e686ee27852", func := "lombard/lombardlaw24.JournalBack", spec := "journalBack", unfollowed := true, recurses := true, apart := false, narrowed := true }
def JournalBackUptoSaid : Prop := journalBackUptoRow.holds Try.pinned (OpenSpec.upto journalBackSpec)

/-- 'lombardlaw24.JournalNil', WHERE WHAT IT READS IS OF BULK AT MOST 1048576: true; the input reads as it did. -/
def journalNilUptoRow : OpenClaim := { program := "ytdjkkpefljapcaa", sum := "a81630cbbc93667823e28f5bd04b6bd57f8e291896b47454c1da9e686ee27852", func := "lombard/lombardlaw24.JournalNil", spec := "journalNil", unfollowed := true, recurses := true, apart := false, narrowed := true }
def JournalNilUptoSaid : Prop := journalNilUptoRow.holds Try.pinned (OpenSpec.upto journalNilSpec)

/-- 'lombardlaw24.JournalLeaves', WHERE WHAT IT READS IS OF BULK AT MOST 1048576: true; the input reads as it did. -/
def journalLeavesUptoRow : OpenClaim := { program := "ytdjkkpefljapcaa", sum := "a81630cbbc93667823e28f5bd04b6bd57f8e291896b47454c1da9e686ee27852", func := "lombard/lombardlaw24.JournalLeaves", spec := "journalLeaves", unfollowed := true, recurses := true, apart := false, narrowed := true }
def JournalLeavesUptoSaid : Prop := journalLeavesUptoRow.holds Try.pinned (OpenSpec.upto journalLeavesSpec)

/-- 'lombardlaw24.JournalFull', WHERE WHAT IT READS IS OF BULK AT MOST 1048576: true; the input reads as it did. -/
def journalFullUptoRow : OpenClaim := { program := "ytdjkkpefljapcaa", sum := "a81630cbbc93667823e28f5bd04b6bd57f8e291896b47454c1da9e686ee27852", func := "lombard/lombardlaw24.JournalFull", spec := "journalFull", unfollowed := true, recurses := true, apart := false, narrowed := true }
def JournalFullUptoSaid : Prop := journalFullUptoRow.holds Try.pinned (OpenSpec.upto journalFullSpec)

/-- 'lombardlaw24.JournalPlays', WHERE WHAT IT READS IS OF BULK AT MOST 1048576: true; the input reads as it did. -/
def journalPlaysUptoRow : OpenClaim := { program := "ytdjkkpefljapcaa", sum := "a81630cbbc93667823e28f5bd04b6bd57f8e291896b47454c1da9e686ee27852", func := "lombard/lombardlaw24.JournalPlays", spec := "journalPlays", unfollowed := true, recurses := true, apart := false, narrowed := true }
def JournalPlaysUptoSaid : Prop := journalPlaysUptoRow.holds Try.pinned (OpenSpec.upto journalPlaysSpec)

/-- 'lombardlaw24.JournalTorn', WHERE WHAT IT READS IS OF BULK AT MOST 1048576: true; the input reads as it did. -/
def journalTornUptoRow : OpenClaim := { program := "ytdjkkpefljapcaa", sum := "a81630cbbc93667823e28f5bd04b6bd57f8e291896b47454c1da9e686ee27852", func := "lombard/lombardlaw24.JournalTorn", spec := "journalTorn", unfollowed := true, recurses := true, apart := false, narrowed := true }
def JournalTornUptoSaid : Prop := journalTornUptoRow.holds Try.pinned (OpenSpec.upto journalTornSpec)

end Rows
end Go.Proofs.Ytdjkkpefljapcaa
