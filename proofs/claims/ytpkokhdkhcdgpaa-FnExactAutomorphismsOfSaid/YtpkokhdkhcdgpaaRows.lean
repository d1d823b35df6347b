/-
  No cell of these rows narrows 'for every input' (looked for: loops, veiled, ifaces, maps, wideKeys, modest, calm, conditions, laid).
  DERIVED. THE GIVEN ROWS OF THIS SEAT. 10 by the template 'for every input the law returns true; each argument reads behind the call as it read before'; 0 by the template 'total and deterministic' (their statements: YtpkokhdkhcdgpaaTotals.lean).
  GIVEN WITH THE SEED: the statements are not yours to turn. If you find one false, say at which input.
  Laid BY PROGRAM, IN A SANDBOX (cutbox-rows.mjs): the forced cells as the released guide's own fill.sh prints them over the translation 1b25ea835cd06815… (all of the seat's roots in one cut). By AI agents, Wed Nov 11 2026. No macro, syntax, notation, axiom, sorry.
-/
import Derived.Test.YtpkokhdkhcdgpaaChecked
import GoSem.Claim
import GoSem.ClaimJoined
import GoSem.ClaimMapViews
import Derived.JoinedTies
import Derived.KernelRfl
namespace Go.Proofs.Ytpkokhdkhcdgpaa
/- THE CELL 'sum', in the pinned program and in every row, IS THE sha256 OF THE DUMP (.gsa) THAT YtpkokhdkhcdgpaaProg.lean LOADS. Nothing in Lean hashes anything: it is a label: what it is worth is what the hold of that sum in a sandbox is worth. -/
noncomputable def Try.pinned : Pinned := { name := "ytpkokhdkhcdgpaa", sum := "1b25ea835cd06815459f6dc853e68b825ccf0e6533e6610050cb754771702ef5", checked := Try.checked }
namespace Rows
def none {H : Type} : Left H := { results := [], args := [] }

/-- 'laws.FnExactImageOfSet': WHATEVER THE INPUT: true; the input reads as it did. -/
def fnExactImageOfSetSpec : ChangeSpec := { name := "fnExactImageOfSet", fn := fun _ => fun
  | [d1, d2, d3] => { results := [.lit (.bool true)], args := [d1, d2, d3] }
  | _ => none }
def fnExactImageOfSetRow : OpenClaim := { program := "ytpkokhdkhcdgpaa", sum := "1b25ea835cd06815459f6dc853e68b825ccf0e6533e6610050cb754771702ef5", func := "loop.example/g03402/laws.FnExactImageOfSet", spec := "fnExactImageOfSet", apart := false }
def FnExactImageOfSetSaid : Prop := fnExactImageOfSetRow.holds Try.pinned (OpenSpec.ofChange fnExactImageOfSetSpec)

/-- ITS FALSE NEIGHBOUR: 'it returns false'. Refute it at one input. -/
def fnExactImageOfSetWrong : ChangeSpec := { name := "fnExactImageOfSet", fn := fun _ => fun
  | [d1, d2, d3] => { results := [.lit (.bool false)], args := [d1, d2, d3] }
  | _ => none }
def FnExactImageOfSetWrongFalsely : Prop := fnExactImageOfSetRow.holds Try.pinned (OpenSpec.ofChange fnExactImageOfSetWrong)

/-- 'laws.FnExactBoundaryOf': WHATEVER THE INPUT: true; the input reads as it did. -/
def fnExactBoundaryOfSpec : ChangeSpec := { name := "fnExactBoundaryOf", fn := fun _ => fun
  | [d1, d2, d3] => { results := [.lit (.bool true)], args := [d1, d2, d3] }
  | _ => none }
def fnExactBoundaryOfRow : OpenClaim := { program := "ytpkokhdkhcdgpaa", sum := "1b25ea835cd06815459f6dc853e68b825ccf0e6533e6610050cb754771702ef5", func := "loop.example/g03402/laws.FnExactBoundaryOf", spec := "fnExactBoundaryOf", apart := false }
def FnExactBoundaryOfSaid : Prop := fnExactBoundaryOfRow.holds Try.pinned (OpenSpec.ofChange fnExactBoundaryOfSpec)

/-- ITS FALSE NEIGHBOUR: 'it returns false'. Refute it at one input. -/
def fnExactBoundaryOfWrong : ChangeSpec := { name := "fnExactBoundaryOf", fn := fun _ => fun
  | [d1, d2, d3] => { results := [.lit (.bool false)], args := [d1, d2, d3] }
  | _ => none }
def FnExactBoundaryOfWrongFalsely : Prop := fnExactBoundaryOfRow.holds Try.pinned (OpenSpec.ofChange fnExactBoundaryOfWrong)

/-- 'laws.FnExactIsDifferenceSet': WHATEVER THE INPUT: true; the input reads as it did. -/
def fnExactIsDifferenceSetSpec : ChangeSpec := { name := "fnExactIsDifferenceSet", fn := fun _ => fun
  | [d1, d2] => { results := [.lit (.bool true)], args := [d1, d2] }
  | _ => none }
def fnExactIsDifferenceSetRow : OpenClaim := { program := "ytpkokhdkhcdgpaa", sum := "1b25ea835cd06815459f6dc853e68b825ccf0e6533e6610050cb754771702ef5", func := "loop.example/g03402/laws.FnExactIsDifferenceSet", spec := "fnExactIsDifferenceSet", apart := false }
def FnExactIsDifferenceSetSaid : Prop := fnExactIsDifferenceSetRow.holds Try.pinned (OpenSpec.ofChange fnExactIsDifferenceSetSpec)

/-- ITS FALSE NEIGHBOUR: 'it returns false'. Refute it at one input. -/
def fnExactIsDifferenceSetWrong : ChangeSpec := { name := "fnExactIsDifferenceSet", fn := fun _ => fun
  | [d1, d2] => { results := [.lit (.bool false)], args := [d1, d2] }
  | _ => none }
def FnExactIsDifferenceSetWrongFalsely : Prop := fnExactIsDifferenceSetRow.holds Try.pinned (OpenSpec.ofChange fnExactIsDifferenceSetWrong)

/-- 'laws.FnExactDistanceInCayley': WHATEVER THE INPUT: true; the input reads as it did. -/
def fnExactDistanceInCayleySpec : ChangeSpec := { name := "fnExactDistanceInCayley", fn := fun _ => fun
  | [d1, d2, d3, d4] => { results := [.lit (.bool true)], args := [d1, d2, d3, d4] }
  | _ => none }
def fnExactDistanceInCayleyRow : OpenClaim := { program := "ytpkokhdkhcdgpaa", sum := "1b25ea835cd06815459f6dc853e68b825ccf0e6533e6610050cb754771702ef5", func := "loop.example/g03402/laws.FnExactDistanceInCayley", spec := "fnExactDistanceInCayley", apart := false }
def FnExactDistanceInCayleySaid : Prop := fnExactDistanceInCayleyRow.holds Try.pinned (OpenSpec.ofChange fnExactDistanceInCayleySpec)

/-- ITS FALSE NEIGHBOUR: 'it returns false'. Refute it at one input. -/
def fnExactDistanceInCayleyWrong : ChangeSpec := { name := "fnExactDistanceInCayley", fn := fun _ => fun
  | [d1, d2, d3, d4] => { results := [.lit (.bool false)], args := [d1, d2, d3, d4] }
  | _ => none }
def FnExactDistanceInCayleyWrongFalsely : Prop := fnExactDistanceInCayleyRow.holds Try.pinned (OpenSpec.ofChange fnExactDistanceInCayleyWrong)

/-- 'laws.FnExactFindDifferenceSet': WHATEVER THE INPUT: true; the input reads as it did. -/
def fnExactFindDifferenceSetSpec : ChangeSpec := { name := "fnExactFindDifferenceSet", fn := fun _ => fun
  | [d1, d2] => { results := [.lit (.bool true)], args := [d1, d2] }
  | _ => none }
def fnExactFindDifferenceSetRow : OpenClaim := { program := "ytpkokhdkhcdgpaa", sum := "1b25ea835cd06815459f6dc853e68b825ccf0e6533e6610050cb754771702ef5", func := "loop.example/g03402/laws.FnExactFindDifferenceSet", spec := "fnExactFindDifferenceSet", unfollowed := true, recurses := true, apart := false }
def FnExactFindDifferenceSetSaid : Prop := fnExactFindDifferenceSetRow.holds Try.pinned (OpenSpec.ofChange fnExactFindDifferenceSetSpec)

/-- ITS FALSE NEIGHBOUR: 'it returns false'. Refute it at one input. -/
def fnExactFindDifferenceSetWrong : ChangeSpec := { name := "fnExactFindDifferenceSet", fn := fun _ => fun
  | [d1, d2] => { results := [.lit (.bool false)], args := [d1, d2] }
  | _ => none }
def FnExactFindDifferenceSetWrongFalsely : Prop := fnExactFindDifferenceSetRow.holds Try.pinned (OpenSpec.ofChange fnExactFindDifferenceSetWrong)

/-- 'laws.FnExactCountAutomorphisms': WHATEVER THE INPUT: true; the input reads as it did. -/
def fnExactCountAutomorphismsSpec : ChangeSpec := { name := "fnExactCountAutomorphisms", fn := fun _ => fun
  | [d] => { results := [.lit (.bool true)], args := [d] }
  | _ => none }
def fnExactCountAutomorphismsRow : OpenClaim := { program := "ytpkokhdkhcdgpaa", sum := "1b25ea835cd06815459f6dc853e68b825ccf0e6533e6610050cb754771702ef5", func := "loop.example/g03402/laws.FnExactCountAutomorphisms", spec := "fnExactCountAutomorphisms", unfollowed := true, recurses := true, apart := false }
def FnExactCountAutomorphismsSaid : Prop := fnExactCountAutomorphismsRow.holds Try.pinned (OpenSpec.ofChange fnExactCountAutomorphismsSpec)

/-- ITS FALSE NEIGHBOUR: 'it returns false'. Refute it at one input. -/
def fnExactCountAutomorphismsWrong : ChangeSpec := { name := "fnExactCountAutomorphisms", fn := fun _ => fun
  | [d] => { results := [.lit (.bool false)], args := [d] }
  | _ => none }
def FnExactCountAutomorphismsWrongFalsely : Prop := fnExactCountAutomorphismsRow.holds Try.pinned (OpenSpec.ofChange fnExactCountAutomorphismsWrong)

/-- 'laws.FnExactAutomorphismsOf': WHATEVER THE INPUT: true; the input reads as it did. -/
def fnExactAutomorphismsOfSpec : ChangeSpec := { name := "fnExactAutomorphismsOf", fn := fun _ => fun
  | [d] => { results := [.lit (.bool true)], args := [d] }
  | _ => none }
def fnExactAutomorphismsOfRow : OpenClaim := { program := "ytpkokhdkhcdgpaa", sum := "1b25ea835cd06815459f6dc853e68b825ccf0e6533e6610050cb754771702ef5", func := "loop.example/g03402/laws.FnExactAutomorphismsOf", spec := "fnExactAutomorphismsOf", unfollowed := true, recurses := true, apart := false }
def FnExactAutomorphismsOfSaid : Prop := fnExactAutomorphismsOfRow.holds Try.pinned (OpenSpec.ofChange fnExactAutomorphismsOfSpec)

/-- ITS FALSE NEIGHBOUR: 'it returns false'. Refute it at one input. -/
def fnExactAutomorphismsOfWrong : ChangeSpec := { name := "fnExactAutomorphismsOf", fn := fun _ => fun
  | [d] => { results := [.lit (.bool false)], args := [d] }
  | _ => none }
def FnExactAutomorphismsOfWrongFalsely : Prop := fnExactAutomorphismsOfRow.holds Try.pinned (OpenSpec.ofChange fnExactAutomorphismsOfWrong)

/-- 'laws.FnExactCanonicalSet': WHATEVER THE INPUT: true; the input reads as it did. -/
def fnExactCanonicalSetSpec : ChangeSpec := { name := "fnExactCanonicalSet", fn := fun _ => fun
  | [d1, d2] => { results := [.lit (.bool true)], args := [d1, d2] }
  | _ => none }
def fnExactCanonicalSetRow : OpenClaim := { program := "ytpkokhdkhcdgpaa", sum := "1b25ea835cd06815459f6dc853e68b825ccf0e6533e6610050cb754771702ef5", func := "loop.example/g03402/laws.FnExactCanonicalSet", spec := "fnExactCanonicalSet", unfollowed := true, recurses := true, apart := false }
def FnExactCanonicalSetSaid : Prop := fnExactCanonicalSetRow.holds Try.pinned (OpenSpec.ofChange fnExactCanonicalSetSpec)

/-- ITS FALSE NEIGHBOUR: 'it returns false'. Refute it at one input. -/
def fnExactCanonicalSetWrong : ChangeSpec := { name := "fnExactCanonicalSet", fn := fun _ => fun
  | [d1, d2] => { results := [.lit (.bool false)], args := [d1, d2] }
  | _ => none }
def FnExactCanonicalSetWrongFalsely : Prop := fnExactCanonicalSetRow.holds Try.pinned (OpenSpec.ofChange fnExactCanonicalSetWrong)

/-- 'laws.FnExactAreEquivalent': WHATEVER THE INPUT: true; the input reads as it did. -/
def fnExactAreEquivalentSpec : ChangeSpec := { name := "fnExactAreEquivalent", fn := fun _ => fun
  | [d1, d2, d3] => { results := [.lit (.bool true)], args := [d1, d2, d3] }
  | _ => none }
def fnExactAreEquivalentRow : OpenClaim := { program := "ytpkokhdkhcdgpaa", sum := "1b25ea835cd06815459f6dc853e68b825ccf0e6533e6610050cb754771702ef5", func := "loop.example/g03402/laws.FnExactAreEquivalent", spec := "fnExactAreEquivalent", unfollowed := true, recurses := true, apart := false }
def FnExactAreEquivalentSaid : Prop := fnExactAreEquivalentRow.holds Try.pinned (OpenSpec.ofChange fnExactAreEquivalentSpec)

/-- ITS FALSE NEIGHBOUR: 'it returns false'. Refute it at one input. -/
def fnExactAreEquivalentWrong : ChangeSpec := { name := "fnExactAreEquivalent", fn := fun _ => fun
  | [d1, d2, d3] => { results := [.lit (.bool false)], args := [d1, d2, d3] }
  | _ => none }
def FnExactAreEquivalentWrongFalsely : Prop := fnExactAreEquivalentRow.holds Try.pinned (OpenSpec.ofChange fnExactAreEquivalentWrong)

/-- 'laws.FnExactCountClasses': WHATEVER THE INPUT: true; the input reads as it did. -/
def fnExactCountClassesSpec : ChangeSpec := { name := "fnExactCountClasses", fn := fun _ => fun
  | [d1, d2] => { results := [.lit (.bool true)], args := [d1, d2] }
  | _ => none }
def fnExactCountClassesRow : OpenClaim := { program := "ytpkokhdkhcdgpaa", sum := "1b25ea835cd06815459f6dc853e68b825ccf0e6533e6610050cb754771702ef5", func := "loop.example/g03402/laws.FnExactCountClasses", spec := "fnExactCountClasses", unfollowed := true, recurses := true, apart := false }
def FnExactCountClassesSaid : Prop := fnExactCountClassesRow.holds Try.pinned (OpenSpec.ofChange fnExactCountClassesSpec)

/-- ITS FALSE NEIGHBOUR: 'it returns false'. Refute it at one input. -/
def fnExactCountClassesWrong : ChangeSpec := { name := "fnExactCountClasses", fn := fun _ => fun
  | [d1, d2] => { results := [.lit (.bool false)], args := [d1, d2] }
  | _ => none }
def FnExactCountClassesWrongFalsely : Prop := fnExactCountClassesRow.holds Try.pinned (OpenSpec.ofChange fnExactCountClassesWrong)

/- THE SECOND FORM. 'bulk': how many values and letters a reading holds, each counted each time it is reached (what is shared counts as often as it is met; a slice's spare places count too). A statement '..UptoSaid' is the law's where the arguments, and the package variables that the reading takes, are together of bulk at most 1048576: NARROWER than '..Said'. Prove '..Said' where nothing that the law and all that it calls make is longer than what came in: it says more and counts as full. Else prove '..UptoSaid'. A law counts once. -/
mutual
def uptoBulk {H : Type} : DataW H → Nat
  | .lit (.string bytes) => bytes.length + 1
  | .lit _ => 1
  | .nil => 1
  | .ptr d => uptoBulk d + 1
  | .slice elems spare => uptoBulkAll elems + uptoBulkAll spare + 1
  | .agg parts => uptoBulkAll parts + 1
  | .iface _ d => uptoBulk d + 1
  | .map entries => uptoBulkEntries entries + 1
  | .held _ => 1
def uptoBulkAll {H : Type} : List (DataW H) → Nat
  | [] => 0
  | d :: r => uptoBulk d + uptoBulkAll r
def uptoBulkEntries {H : Type} : List (Lit × DataW H) → Nat
  | [] => 0
  | x :: r => uptoBulkEntry x + uptoBulkEntries r
def uptoBulkEntry {H : Type} : Lit × DataW H → Nat
  | (.string bytes, d) => bytes.length + uptoBulk d + 1
  | (_, d) => uptoBulk d + 1
 end
def uptoSmall : (H : Type) → List (DataW H) → Bool := fun _ ds => decide (uptoBulkAll ds ≤ 1048576)
def OpenSpec.upto (s : _root_.Go.ChangeSpec) : _root_.Go.OpenSpec := { _root_.Go.OpenSpec.ofChange s with cond := some uptoSmall }

/-- 'laws.FnExactImageOfSet', WHERE WHAT IT READS IS OF BULK AT MOST 1048576: true; the input reads as it did. -/
def fnExactImageOfSetUptoRow : OpenClaim := { program := "ytpkokhdkhcdgpaa", sum := "1b25ea835cd06815459f6dc853e68b825ccf0e6533e6610050cb754771702ef5", func := "loop.example/g03402/laws.FnExactImageOfSet", spec := "fnExactImageOfSet", apart := false, narrowed := true }
def FnExactImageOfSetUptoSaid : Prop := fnExactImageOfSetUptoRow.holds Try.pinned (OpenSpec.upto fnExactImageOfSetSpec)

/-- 'laws.FnExactBoundaryOf', WHERE WHAT IT READS IS OF BULK AT MOST 1048576: true; the input reads as it did. -/
def fnExactBoundaryOfUptoRow : OpenClaim := { program := "ytpkokhdkhcdgpaa", sum := "1b25ea835cd06815459f6dc853e68b825ccf0e6533e6610050cb754771702ef5", func := "loop.example/g03402/laws.FnExactBoundaryOf", spec := "fnExactBoundaryOf", apart := false, narrowed := true }
def FnExactBoundaryOfUptoSaid : Prop := fnExactBoundaryOfUptoRow.holds Try.pinned (OpenSpec.upto fnExactBoundaryOfSpec)

/-- 'laws.FnExactIsDifferenceSet', WHERE WHAT IT READS IS OF BULK AT MOST 1048576: true; the input reads as it did. -/
def fnExactIsDifferenceSetUptoRow : OpenClaim := { program := "ytpkokhdkhcdgpaa", sum := "1b25ea835cd06815459f6dc853e68b825ccf0e6533e6610050cb754771702ef5", func := "loop.example/g03402/laws.FnExactIsDifferenceSet", spec := "fnExactIsDifferenceSet", apart := false, narrowed := true }
def FnExactIsDifferenceSetUptoSaid : Prop := fnExactIsDifferenceSetUptoRow.holds Try.pinned (OpenSpec.upto fnExactIsDifferenceSetSpec)

/-- 'laws.FnExactDistanceInCayley', WHERE WHAT IT READS IS OF BULK AT MOST 1048576: true; the input reads as it did. -/
def fnExactDistanceInCayleyUptoRow : OpenClaim := { program := "ytpkokhdkhcdgpaa", sum := "1b25ea835cd06815459f6dc853e68b825ccf0e6533e6610050cb754771702ef5", func := "loop.example/g03402/laws.FnExactDistanceInCayley", spec := "fnExactDistanceInCayley", apart := false, narrowed := true }
def FnExactDistanceInCayleyUptoSaid : Prop := fnExactDistanceInCayleyUptoRow.holds Try.pinned (OpenSpec.upto fnExactDistanceInCayleySpec)

/-- 'laws.FnExactFindDifferenceSet', WHERE WHAT IT READS IS OF BULK AT MOST 1048576: true; the input reads as it did. -/
def fnExactFindDifferenceSetUptoRow : OpenClaim := { program := "ytpkokhdkhcdgpaa", sum := "1b25ea835cd06815459f6dc853e68b825ccf0e6533e6610050cb754771702ef5", func := "loop.example/g03402/laws.FnExactFindDifferenceSet", spec := "fnExactFindDifferenceSet", unfollowed := true, recurses := true, apart := false, narrowed := true }
def FnExactFindDifferenceSetUptoSaid : Prop := fnExactFindDifferenceSetUptoRow.holds Try.pinned (OpenSpec.upto fnExactFindDifferenceSetSpec)

/-- 'laws.FnExactCountAutomorphisms', WHERE WHAT IT READS IS OF BULK AT MOST 1048576: true; the input reads as it did. -/
def fnExactCountAutomorphismsUptoRow : OpenClaim := { program := "ytpkokhdkhcdgpaa", sum := "1b25ea835cd06815459f6dc853e68b825ccf0e6533e6610050cb754771702ef5", func := "loop.example/g03402/laws.FnExactCountAutomorphisms", spec := "fnExactCountAutomorphisms", unfollowed := true, recurses := true, apart := false, narrowed := true }
def FnExactCountAutomorphismsUptoSaid : Prop := fnExactCountAutomorphismsUptoRow.holds Try.pinned (OpenSpec.upto fnExactCountAutomorphismsSpec)

/-- 'laws.FnExactAutomorphismsOf', WHERE WHAT IT READS IS OF BULK AT MOST 1048576: true; the input reads as it did. -/
def fnExactAutomorphismsOfUptoRow : OpenClaim := { program := "ytpkokhdkhcdgpaa", sum := "1b25ea835cd06815459f6dc853e68b825ccf0e6533e6610050cb754771702ef5", func := "loop.example/g03402/laws.FnExactAutomorphismsOf", spec := "fnExactAutomorphismsOf", unfollowed := true, recurses := true, apart := false, narrowed := true }
def FnExactAutomorphismsOfUptoSaid : Prop := fnExactAutomorphismsOfUptoRow.holds Try.pinned (OpenSpec.upto fnExactAutomorphismsOfSpec)

/-- 'laws.FnExactCanonicalSet', WHERE WHAT IT READS IS OF BULK AT MOST 1048576: true; the input reads as it did. -/
def fnExactCanonicalSetUptoRow : OpenClaim := { program := "ytpkokhdkhcdgpaa", sum := "1b25ea835cd06815459f6dc853e68b825ccf0e6533e6610050cb754771702ef5", func := "loop.example/g03402/laws.FnExactCanonicalSet", spec := "fnExactCanonicalSet", unfollowed := true, recurses := true, apart := false, narrowed := true }
def FnExactCanonicalSetUptoSaid : Prop := fnExactCanonicalSetUptoRow.holds Try.pinned (OpenSpec.upto fnExactCanonicalSetSpec)

/-- 'laws.FnExactAreEquivalent', WHERE WHAT IT READS IS OF BULK AT MOST 1048576: true; the input reads as it did. -/
def fnExactAreEquivalentUptoRow : OpenClaim := { program := "ytpkokhdkhcdgpaa", sum := "1b25ea835cd06815459f6dc853e68b825ccf0e6533e6610050cb754771702ef5", func := "loop.example/g03402/laws.FnExactAreEquivalent", spec := "fnExactAreEquivalent", unfollowed := true, recurses := true, apart := false, narrowed := true }
def FnExactAreEquivalentUptoSaid : Prop := fnExactAreEquivalentUptoRow.holds Try.pinned (OpenSpec.upto fnExactAreEquivalentSpec)

/-- 'laws.FnExactCountClasses', WHERE WHAT IT READS IS OF BULK AT MOST 1048576: true; the input reads as it did. -/
def fnExactCountClassesUptoRow : OpenClaim := { program := "ytpkokhdkhcdgpaa", sum := "1b25ea835cd06815459f6dc853e68b825ccf0e6533e6610050cb754771702ef5", func := "loop.example/g03402/laws.FnExactCountClasses", spec := "fnExactCountClasses", unfollowed := true, recurses := true, apart := false, narrowed := true }
def FnExactCountClassesUptoSaid : Prop := fnExactCountClassesUptoRow.holds Try.pinned (OpenSpec.upto fnExactCountClassesSpec)

end Rows
end Go.Proofs.Ytpkokhdkhcdgpaa
