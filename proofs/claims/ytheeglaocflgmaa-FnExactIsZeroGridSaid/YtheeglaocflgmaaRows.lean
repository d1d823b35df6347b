/-
  No cell of these rows narrows 'for every input' (looked for: loops, veiled, ifaces, maps, wideKeys, modest, calm, conditions, laid).
  DERIVED. THE GIVEN ROWS OF THIS SEAT. 12 by the template 'for every input the law returns true; each argument reads behind the call as it read before'; 0 by the template 'total and deterministic' (their statements: YtheeglaocflgmaaTotals.lean).
  GIVEN WITH THE SEED: the statements are not yours to turn. If you find one false, say at which input.
  Laid BY PROGRAM, IN A SANDBOX (cutbox-rows.mjs): the forced cells as the released guide's own fill.sh prints them over the translation f45ab03fd42dc4cb… (all of the seat's roots in one cut). By AI agents, Wed Nov 11 2026. No macro, syntax, notation, axiom, sorry.
-/
import Derived.Test.YtheeglaocflgmaaChecked
import GoSem.Claim
import GoSem.ClaimJoined
import GoSem.ClaimMapViews
import Derived.JoinedTies
import Derived.KernelRfl
namespace Go.Proofs.Ytheeglaocflgmaa
/- THE CELL 'sum', in the pinned program and in every row, IS THE sha256 OF THE DUMP (.gsa) THAT YtheeglaocflgmaaProg.lean LOADS. Nothing in Lean hashes anything: it is a label: what it is worth is what the hold of that sum in a sandbox is worth. -/
noncomputable def Try.pinned : Pinned := { name := "ytheeglaocflgmaa", sum := "f45ab03fd42dc4cb54f9ed554de640cd63a367706c11eae73c3e260ce3645835", checked := Try.checked }
namespace Rows
def none {H : Type} : Left H := { results := [], args := [] }

/-- 'laws.FnExactCountColorings': WHATEVER THE INPUT: true; the input reads as it did. -/
def fnExactCountColoringsSpec : ChangeSpec := { name := "fnExactCountColorings", fn := fun _ => fun
  | [d1, d2] => { results := [.lit (.bool true)], args := [d1, d2] }
  | _ => none }
def fnExactCountColoringsRow : OpenClaim := { program := "ytheeglaocflgmaa", sum := "f45ab03fd42dc4cb54f9ed554de640cd63a367706c11eae73c3e260ce3645835", func := "loop.example/g03402/laws.FnExactCountColorings", spec := "fnExactCountColorings", unfollowed := true, recurses := true, apart := false }
def FnExactCountColoringsSaid : Prop := fnExactCountColoringsRow.holds Try.pinned (OpenSpec.ofChange fnExactCountColoringsSpec)

/-- ITS FALSE NEIGHBOUR: 'it returns false'. Refute it at one input. -/
def fnExactCountColoringsWrong : ChangeSpec := { name := "fnExactCountColorings", fn := fun _ => fun
  | [d1, d2] => { results := [.lit (.bool false)], args := [d1, d2] }
  | _ => none }
def FnExactCountColoringsWrongFalsely : Prop := fnExactCountColoringsRow.holds Try.pinned (OpenSpec.ofChange fnExactCountColoringsWrong)

/-- 'laws.FnExactSchurNumber': WHATEVER THE INPUT: true; the input reads as it did. -/
def fnExactSchurNumberSpec : ChangeSpec := { name := "fnExactSchurNumber", fn := fun _ => fun
  | [d] => { results := [.lit (.bool true)], args := [d] }
  | _ => none }
def fnExactSchurNumberRow : OpenClaim := { program := "ytheeglaocflgmaa", sum := "f45ab03fd42dc4cb54f9ed554de640cd63a367706c11eae73c3e260ce3645835", func := "loop.example/g03402/laws.FnExactSchurNumber", spec := "fnExactSchurNumber", unfollowed := true, recurses := true, apart := false }
def FnExactSchurNumberSaid : Prop := fnExactSchurNumberRow.holds Try.pinned (OpenSpec.ofChange fnExactSchurNumberSpec)

/-- ITS FALSE NEIGHBOUR: 'it returns false'. Refute it at one input. -/
def fnExactSchurNumberWrong : ChangeSpec := { name := "fnExactSchurNumber", fn := fun _ => fun
  | [d] => { results := [.lit (.bool false)], args := [d] }
  | _ => none }
def FnExactSchurNumberWrongFalsely : Prop := fnExactSchurNumberRow.holds Try.pinned (OpenSpec.ofChange fnExactSchurNumberWrong)

/-- 'laws.FnExactLongestColoring': WHATEVER THE INPUT: true; the input reads as it did. -/
def fnExactLongestColoringSpec : ChangeSpec := { name := "fnExactLongestColoring", fn := fun _ => fun
  | [d] => { results := [.lit (.bool true)], args := [d] }
  | _ => none }
def fnExactLongestColoringRow : OpenClaim := { program := "ytheeglaocflgmaa", sum := "f45ab03fd42dc4cb54f9ed554de640cd63a367706c11eae73c3e260ce3645835", func := "loop.example/g03402/laws.FnExactLongestColoring", spec := "fnExactLongestColoring", unfollowed := true, recurses := true, apart := false }
def FnExactLongestColoringSaid : Prop := fnExactLongestColoringRow.holds Try.pinned (OpenSpec.ofChange fnExactLongestColoringSpec)

/-- ITS FALSE NEIGHBOUR: 'it returns false'. Refute it at one input. -/
def fnExactLongestColoringWrong : ChangeSpec := { name := "fnExactLongestColoring", fn := fun _ => fun
  | [d] => { results := [.lit (.bool false)], args := [d] }
  | _ => none }
def FnExactLongestColoringWrongFalsely : Prop := fnExactLongestColoringRow.holds Try.pinned (OpenSpec.ofChange fnExactLongestColoringWrong)

/-- 'laws.FnExactIsRegularEquation': WHATEVER THE INPUT: true; the input reads as it did. -/
def fnExactIsRegularEquationSpec : ChangeSpec := { name := "fnExactIsRegularEquation", fn := fun _ => fun
  | [d] => { results := [.lit (.bool true)], args := [d] }
  | _ => none }
def fnExactIsRegularEquationRow : OpenClaim := { program := "ytheeglaocflgmaa", sum := "f45ab03fd42dc4cb54f9ed554de640cd63a367706c11eae73c3e260ce3645835", func := "loop.example/g03402/laws.FnExactIsRegularEquation", spec := "fnExactIsRegularEquation", apart := false }
def FnExactIsRegularEquationSaid : Prop := fnExactIsRegularEquationRow.holds Try.pinned (OpenSpec.ofChange fnExactIsRegularEquationSpec)

/-- ITS FALSE NEIGHBOUR: 'it returns false'. Refute it at one input. -/
def fnExactIsRegularEquationWrong : ChangeSpec := { name := "fnExactIsRegularEquation", fn := fun _ => fun
  | [d] => { results := [.lit (.bool false)], args := [d] }
  | _ => none }
def FnExactIsRegularEquationWrongFalsely : Prop := fnExactIsRegularEquationRow.holds Try.pinned (OpenSpec.ofChange fnExactIsRegularEquationWrong)

/-- 'laws.FnExactLongestFreeList': WHATEVER THE INPUT: true; the input reads as it did. -/
def fnExactLongestFreeListSpec : ChangeSpec := { name := "fnExactLongestFreeList", fn := fun _ => fun
  | [d] => { results := [.lit (.bool true)], args := [d] }
  | _ => none }
def fnExactLongestFreeListRow : OpenClaim := { program := "ytheeglaocflgmaa", sum := "f45ab03fd42dc4cb54f9ed554de640cd63a367706c11eae73c3e260ce3645835", func := "loop.example/g03402/laws.FnExactLongestFreeList", spec := "fnExactLongestFreeList", unfollowed := true, recurses := true, apart := false }
def FnExactLongestFreeListSaid : Prop := fnExactLongestFreeListRow.holds Try.pinned (OpenSpec.ofChange fnExactLongestFreeListSpec)

/-- ITS FALSE NEIGHBOUR: 'it returns false'. Refute it at one input. -/
def fnExactLongestFreeListWrong : ChangeSpec := { name := "fnExactLongestFreeList", fn := fun _ => fun
  | [d] => { results := [.lit (.bool false)], args := [d] }
  | _ => none }
def FnExactLongestFreeListWrongFalsely : Prop := fnExactLongestFreeListRow.holds Try.pinned (OpenSpec.ofChange fnExactLongestFreeListWrong)

/-- 'laws.FnExactZeroColumns': WHATEVER THE INPUT: true; the input reads as it did. -/
def fnExactZeroColumnsSpec : ChangeSpec := { name := "fnExactZeroColumns", fn := fun _ => fun
  | [d] => { results := [.lit (.bool true)], args := [d] }
  | _ => none }
def fnExactZeroColumnsRow : OpenClaim := { program := "ytheeglaocflgmaa", sum := "f45ab03fd42dc4cb54f9ed554de640cd63a367706c11eae73c3e260ce3645835", func := "loop.example/g03402/laws.FnExactZeroColumns", spec := "fnExactZeroColumns", apart := false }
def FnExactZeroColumnsSaid : Prop := fnExactZeroColumnsRow.holds Try.pinned (OpenSpec.ofChange fnExactZeroColumnsSpec)

/-- ITS FALSE NEIGHBOUR: 'it returns false'. Refute it at one input. -/
def fnExactZeroColumnsWrong : ChangeSpec := { name := "fnExactZeroColumns", fn := fun _ => fun
  | [d] => { results := [.lit (.bool false)], args := [d] }
  | _ => none }
def FnExactZeroColumnsWrongFalsely : Prop := fnExactZeroColumnsRow.holds Try.pinned (OpenSpec.ofChange fnExactZeroColumnsWrong)

/-- 'laws.FnExactMonochromeSolution': WHATEVER THE INPUT: true; the input reads as it did. -/
def fnExactMonochromeSolutionSpec : ChangeSpec := { name := "fnExactMonochromeSolution", fn := fun _ => fun
  | [d1, d2] => { results := [.lit (.bool true)], args := [d1, d2] }
  | _ => none }
def fnExactMonochromeSolutionRow : OpenClaim := { program := "ytheeglaocflgmaa", sum := "f45ab03fd42dc4cb54f9ed554de640cd63a367706c11eae73c3e260ce3645835", func := "loop.example/g03402/laws.FnExactMonochromeSolution", spec := "fnExactMonochromeSolution", unfollowed := true, recurses := true, apart := false }
def FnExactMonochromeSolutionSaid : Prop := fnExactMonochromeSolutionRow.holds Try.pinned (OpenSpec.ofChange fnExactMonochromeSolutionSpec)

/-- ITS FALSE NEIGHBOUR: 'it returns false'. Refute it at one input. -/
def fnExactMonochromeSolutionWrong : ChangeSpec := { name := "fnExactMonochromeSolution", fn := fun _ => fun
  | [d1, d2] => { results := [.lit (.bool false)], args := [d1, d2] }
  | _ => none }
def FnExactMonochromeSolutionWrongFalsely : Prop := fnExactMonochromeSolutionRow.holds Try.pinned (OpenSpec.ofChange fnExactMonochromeSolutionWrong)

/-- 'laws.FnExactSolutionsIn': WHATEVER THE INPUT: true; the input reads as it did. -/
def fnExactSolutionsInSpec : ChangeSpec := { name := "fnExactSolutionsIn", fn := fun _ => fun
  | [d1, d2] => { results := [.lit (.bool true)], args := [d1, d2] }
  | _ => none }
def fnExactSolutionsInRow : OpenClaim := { program := "ytheeglaocflgmaa", sum := "f45ab03fd42dc4cb54f9ed554de640cd63a367706c11eae73c3e260ce3645835", func := "loop.example/g03402/laws.FnExactSolutionsIn", spec := "fnExactSolutionsIn", unfollowed := true, recurses := true, apart := false }
def FnExactSolutionsInSaid : Prop := fnExactSolutionsInRow.holds Try.pinned (OpenSpec.ofChange fnExactSolutionsInSpec)

/-- ITS FALSE NEIGHBOUR: 'it returns false'. Refute it at one input. -/
def fnExactSolutionsInWrong : ChangeSpec := { name := "fnExactSolutionsIn", fn := fun _ => fun
  | [d1, d2] => { results := [.lit (.bool false)], args := [d1, d2] }
  | _ => none }
def FnExactSolutionsInWrongFalsely : Prop := fnExactSolutionsInRow.holds Try.pinned (OpenSpec.ofChange fnExactSolutionsInWrong)

/-- 'laws.FnExactRadoNumber': WHATEVER THE INPUT: true; the input reads as it did. -/
def fnExactRadoNumberSpec : ChangeSpec := { name := "fnExactRadoNumber", fn := fun _ => fun
  | [d1, d2] => { results := [.lit (.bool true)], args := [d1, d2] }
  | _ => none }
def fnExactRadoNumberRow : OpenClaim := { program := "ytheeglaocflgmaa", sum := "f45ab03fd42dc4cb54f9ed554de640cd63a367706c11eae73c3e260ce3645835", func := "loop.example/g03402/laws.FnExactRadoNumber", spec := "fnExactRadoNumber", unfollowed := true, recurses := true, apart := false }
def FnExactRadoNumberSaid : Prop := fnExactRadoNumberRow.holds Try.pinned (OpenSpec.ofChange fnExactRadoNumberSpec)

/-- ITS FALSE NEIGHBOUR: 'it returns false'. Refute it at one input. -/
def fnExactRadoNumberWrong : ChangeSpec := { name := "fnExactRadoNumber", fn := fun _ => fun
  | [d1, d2] => { results := [.lit (.bool false)], args := [d1, d2] }
  | _ => none }
def FnExactRadoNumberWrongFalsely : Prop := fnExactRadoNumberRow.holds Try.pinned (OpenSpec.ofChange fnExactRadoNumberWrong)

/-- 'laws.FnExactIsZeroGrid': WHATEVER THE INPUT: true; the input reads as it did. -/
def fnExactIsZeroGridSpec : ChangeSpec := { name := "fnExactIsZeroGrid", fn := fun _ => fun
  | [d1, d2, d3, d4] => { results := [.lit (.bool true)], args := [d1, d2, d3, d4] }
  | _ => none }
def fnExactIsZeroGridRow : OpenClaim := { program := "ytheeglaocflgmaa", sum := "f45ab03fd42dc4cb54f9ed554de640cd63a367706c11eae73c3e260ce3645835", func := "loop.example/g03402/laws.FnExactIsZeroGrid", spec := "fnExactIsZeroGrid", apart := false }
def FnExactIsZeroGridSaid : Prop := fnExactIsZeroGridRow.holds Try.pinned (OpenSpec.ofChange fnExactIsZeroGridSpec)

/-- ITS FALSE NEIGHBOUR: 'it returns false'. Refute it at one input. -/
def fnExactIsZeroGridWrong : ChangeSpec := { name := "fnExactIsZeroGrid", fn := fun _ => fun
  | [d1, d2, d3, d4] => { results := [.lit (.bool false)], args := [d1, d2, d3, d4] }
  | _ => none }
def FnExactIsZeroGridWrongFalsely : Prop := fnExactIsZeroGridRow.holds Try.pinned (OpenSpec.ofChange fnExactIsZeroGridWrong)

/-- 'laws.FnExactIsConnection': WHATEVER THE INPUT: true; the input reads as it did. -/
def fnExactIsConnectionSpec : ChangeSpec := { name := "fnExactIsConnection", fn := fun _ => fun
  | [d1, d2] => { results := [.lit (.bool true)], args := [d1, d2] }
  | _ => none }
def fnExactIsConnectionRow : OpenClaim := { program := "ytheeglaocflgmaa", sum := "f45ab03fd42dc4cb54f9ed554de640cd63a367706c11eae73c3e260ce3645835", func := "loop.example/g03402/laws.FnExactIsConnection", spec := "fnExactIsConnection", apart := false }
def FnExactIsConnectionSaid : Prop := fnExactIsConnectionRow.holds Try.pinned (OpenSpec.ofChange fnExactIsConnectionSpec)

/-- ITS FALSE NEIGHBOUR: 'it returns false'. Refute it at one input. -/
def fnExactIsConnectionWrong : ChangeSpec := { name := "fnExactIsConnection", fn := fun _ => fun
  | [d1, d2] => { results := [.lit (.bool false)], args := [d1, d2] }
  | _ => none }
def FnExactIsConnectionWrongFalsely : Prop := fnExactIsConnectionRow.holds Try.pinned (OpenSpec.ofChange fnExactIsConnectionWrong)

/-- 'laws.FnExactTriplesIn': WHATEVER THE INPUT: true; the input reads as it did. -/
def fnExactTriplesInSpec : ChangeSpec := { name := "fnExactTriplesIn", fn := fun _ => fun
  | [d1, d2] => { results := [.lit (.bool true)], args := [d1, d2] }
  | _ => none }
def fnExactTriplesInRow : OpenClaim := { program := "ytheeglaocflgmaa", sum := "f45ab03fd42dc4cb54f9ed554de640cd63a367706c11eae73c3e260ce3645835", func := "loop.example/g03402/laws.FnExactTriplesIn", spec := "fnExactTriplesIn", apart := false }
def FnExactTriplesInSaid : Prop := fnExactTriplesInRow.holds Try.pinned (OpenSpec.ofChange fnExactTriplesInSpec)

/-- ITS FALSE NEIGHBOUR: 'it returns false'. Refute it at one input. -/
def fnExactTriplesInWrong : ChangeSpec := { name := "fnExactTriplesIn", fn := fun _ => fun
  | [d1, d2] => { results := [.lit (.bool false)], args := [d1, d2] }
  | _ => none }
def FnExactTriplesInWrongFalsely : Prop := fnExactTriplesInRow.holds Try.pinned (OpenSpec.ofChange fnExactTriplesInWrong)

/- THE SECOND FORM. 'bulk': how many values and letters a reading holds, each counted each time it is reached (what is shared counts as often as it is met; a slice's spare places count too). A statement '..UptoSaid' is the law's where the arguments, and the package variables that the reading takes, are together of bulk at most 1048576: NARROWER than '..Said'. Prove '..Said' where nothing that the law and all that it calls make is longer than what came in: it says more and counts as full. Else prove '..UptoSaid'. A law counts once. -/
mutual
def uptoBulk {H : Type} : DataW H → Nat
  | .lit (.string bytes) => bytes.length + 1
  | .lit _ => 1
  | .nil => 1
  | .ptr d => uptoBulk d + 1
  | .slice elems spare => uptoBulkAll elems + uptoBulkAll spare + 1
  | .agg parts => uptoBulkAll parts + 1
  | .iface _ d => uptoBulk d + 1
  | .map entries => uptoBulkEntries entries + 1
  | .held _ => 1
def uptoBulkAll {H : Type} : List (DataW H) → Nat
  | [] => 0
  | d :: r => uptoBulk d + uptoBulkAll r
def uptoBulkEntries {H : Type} : List (Lit × DataW H) → Nat
  | [] => 0
  | x :: r => uptoBulkEntry x + uptoBulkEntries r
def uptoBulkEntry {H : Type} : Lit × DataW H → Nat
  | (.string bytes, d) => bytes.length + uptoBulk d + 1
  | (_, d) => uptoBulk d + 1
 end
def uptoSmall : (H : Type) → List (DataW H) → Bool := fun _ ds => decide (uptoBulkAll ds ≤ 1048576)
def OpenSpec.upto (s : _root_.Go.ChangeSpec) : _root_.Go.OpenSpec := { _root_.Go.OpenSpec.ofChange s with cond := some uptoSmall }

/-- 'laws.FnExactCountColorings', WHERE WHAT IT READS IS OF BULK AT MOST 1048576: true; the input reads as it did. -/
def fnExactCountColoringsUptoRow : OpenClaim := { program := "ytheeglaocflgmaa", sum := "f45ab03fd42dc4cb54f9ed554de640cd63a367706c11eae73c3e260ce3645835", func := "loop.example/g03402/laws.FnExactCountColorings", spec := "fnExactCountColorings", unfollowed := true, recurses := true, apart := false, narrowed := true }
def FnExactCountColoringsUptoSaid : Prop := fnExactCountColoringsUptoRow.holds Try.pinned (OpenSpec.upto fnExactCountColoringsSpec)

/-- 'laws.FnExactSchurNumber', WHERE WHAT IT READS IS OF BULK AT MOST 1048576: true; the input reads as it did. -/
def fnExactSchurNumberUptoRow : OpenClaim := { program := "ytheeglaocflgmaa", sum := "f45ab03fd42dc4cb54f9ed554de640cd63a367706c11eae73c3e260ce3645835", func := "loop.example/g03402/laws.FnExactSchurNumber", spec := "fnExactSchurNumber", unfollowed := true, recurses := true, apart := false, narrowed := true }
def FnExactSchurNumberUptoSaid : Prop := fnExactSchurNumberUptoRow.holds Try.pinned (OpenSpec.upto fnExactSchurNumberSpec)

/-- 'laws.FnExactLongestColoring', WHERE WHAT IT READS IS OF BULK AT MOST 1048576: true; the input reads as it did. -/
def fnExactLongestColoringUptoRow : OpenClaim := { program := "ytheeglaocflgmaa", sum := "f45ab03fd42dc4cb54f9ed554de640cd63a367706c11eae73c3e260ce3645835", func := "loop.example/g03402/laws.FnExactLongestColoring", spec := "fnExactLongestColoring", unfollowed := true, recurses := true, apart := false, narrowed := true }
def FnExactLongestColoringUptoSaid : Prop := fnExactLongestColoringUptoRow.holds Try.pinned (OpenSpec.upto fnExactLongestColoringSpec)

/-- 'laws.FnExactIsRegularEquation', WHERE WHAT IT READS IS OF BULK AT MOST 1048576: true; the input reads as it did. -/
def fnExactIsRegularEquationUptoRow : OpenClaim := { program := "ytheeglaocflgmaa", sum := "f45ab03fd42dc4cb54f9ed554de640cd63a367706c11eae73c3e260ce3645835", func := "loop.example/g03402/laws.FnExactIsRegularEquation", spec := "fnExactIsRegularEquation", apart := false, narrowed := true }
def FnExactIsRegularEquationUptoSaid : Prop := fnExactIsRegularEquationUptoRow.holds Try.pinned (OpenSpec.upto fnExactIsRegularEquationSpec)

/-- 'laws.FnExactLongestFreeList', WHERE WHAT IT READS IS OF BULK AT MOST 1048576: true; the input reads as it did. -/
def fnExactLongestFreeListUptoRow : OpenClaim := { program := "ytheeglaocflgmaa", sum := "f45ab03fd42dc4cb54f9ed554de640cd63a367706c11eae73c3e260ce3645835", func := "loop.example/g03402/laws.FnExactLongestFreeList", spec := "fnExactLongestFreeList", unfollowed := true, recurses := true, apart := false, narrowed := true }
def FnExactLongestFreeListUptoSaid : Prop := fnExactLongestFreeListUptoRow.holds Try.pinned (OpenSpec.upto fnExactLongestFreeListSpec)

/-- 'laws.FnExactZeroColumns', WHERE WHAT IT READS IS OF BULK AT MOST 1048576: true; the input reads as it did. -/
def fnExactZeroColumnsUptoRow : OpenClaim := { program := "ytheeglaocflgmaa", sum := "f45ab03fd42dc4cb54f9ed554de640cd63a367706c11eae73c3e260ce3645835", func := "loop.example/g03402/laws.FnExactZeroColumns", spec := "fnExactZeroColumns", apart := false, narrowed := true }
def FnExactZeroColumnsUptoSaid : Prop := fnExactZeroColumnsUptoRow.holds Try.pinned (OpenSpec.upto fnExactZeroColumnsSpec)

/-- 'laws.FnExactMonochromeSolution', WHERE WHAT IT READS IS OF BULK AT MOST 1048576: true; the input reads as it did. -/
def fnExactMonochromeSolutionUptoRow : OpenClaim := { program := "ytheeglaocflgmaa", sum := "f45ab03fd42dc4cb54f9ed554de640cd63a367706c11eae73c3e260ce3645835", func := "loop.example/g03402/laws.FnExactMonochromeSolution", spec := "fnExactMonochromeSolution", unfollowed := true, recurses := true, apart := false, narrowed := true }
def FnExactMonochromeSolutionUptoSaid : Prop := fnExactMonochromeSolutionUptoRow.holds Try.pinned (OpenSpec.upto fnExactMonochromeSolutionSpec)

/-- 'laws.FnExactSolutionsIn', WHERE WHAT IT READS IS OF BULK AT MOST 1048576: true; the input reads as it did. -/
def fnExactSolutionsInUptoRow : OpenClaim := { program := "ytheeglaocflgmaa", sum := "f45ab03fd42dc4cb54f9ed554de640cd63a367706c11eae73c3e260ce3645835", func := "loop.example/g03402/laws.FnExactSolutionsIn", spec := "fnExactSolutionsIn", unfollowed := true, recurses := true, apart := false, narrowed := true }
def FnExactSolutionsInUptoSaid : Prop := fnExactSolutionsInUptoRow.holds Try.pinned (OpenSpec.upto fnExactSolutionsInSpec)

/-- 'laws.FnExactRadoNumber', WHERE WHAT IT READS IS OF BULK AT MOST 1048576: true; the input reads as it did. -/
def fnExactRadoNumberUptoRow : OpenClaim := { program := "ytheeglaocflgmaa", sum := "f45ab03fd42dc4cb54f9ed554de640cd63a367706c11eae73c3e260ce3645835", func := "loop.example/g03402/laws.FnExactRadoNumber", spec := "fnExactRadoNumber", unfollowed := true, recurses := true, apart := false, narrowed := true }
def FnExactRadoNumberUptoSaid : Prop := fnExactRadoNumberUptoRow.holds Try.pinned (OpenSpec.upto fnExactRadoNumberSpec)

/-- 'laws.FnExactIsZeroGrid', WHERE WHAT IT READS IS OF BULK AT MOST 1048576: true; the input reads as it did. -/
def fnExactIsZeroGridUptoRow : OpenClaim := { program := "ytheeglaocflgmaa", sum := "f45ab03fd42dc4cb54f9ed554de640cd63a367706c11eae73c3e260ce3645835", func := "loop.example/g03402/laws.FnExactIsZeroGrid", spec := "fnExactIsZeroGrid", apart := false, narrowed := true }
def FnExactIsZeroGridUptoSaid : Prop := fnExactIsZeroGridUptoRow.holds Try.pinned (OpenSpec.upto fnExactIsZeroGridSpec)

/-- 'laws.FnExactIsConnection', WHERE WHAT IT READS IS OF BULK AT MOST 1048576: true; the input reads as it did. -/
def fnExactIsConnectionUptoRow : OpenClaim := { program := "ytheeglaocflgmaa", sum := "f45ab03fd42dc4cb54f9ed554de640cd63a367706c11eae73c3e260ce3645835", func := "loop.example/g03402/laws.FnExactIsConnection", spec := "fnExactIsConnection", apart := false, narrowed := true }
def FnExactIsConnectionUptoSaid : Prop := fnExactIsConnectionUptoRow.holds Try.pinned (OpenSpec.upto fnExactIsConnectionSpec)

/-- 'laws.FnExactTriplesIn', WHERE WHAT IT READS IS OF BULK AT MOST 1048576: true; the input reads as it did. -/
def fnExactTriplesInUptoRow : OpenClaim := { program := "ytheeglaocflgmaa", sum := "f45ab03fd42dc4cb54f9ed554de640cd63a367706c11eae73c3e260ce3645835", func := "loop.example/g03402/laws.FnExactTriplesIn", spec := "fnExactTriplesIn", apart := false, narrowed := true }
def FnExactTriplesInUptoSaid : Prop := fnExactTriplesInUptoRow.holds Try.pinned (OpenSpec.upto fnExactTriplesInSpec)

end Rows
end Go.Proofs.Ytheeglaocflgmaa
