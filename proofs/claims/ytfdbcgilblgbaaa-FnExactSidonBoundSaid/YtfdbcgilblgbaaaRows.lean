/-
  No cell of these rows narrows 'for every input' (looked for: loops, veiled, ifaces, maps, wideKeys, modest, calm, conditions, laid).
  DERIVED. THE GIVEN ROWS OF THIS SEAT. 12 by the template 'for every input the law returns true; each argument reads behind the call as it read before'; 0 by the template 'total and deterministic' (their statements: YtfdbcgilblgbaaaTotals.lean).
  GIVEN WITH THE SEED: the statements are not yours to turn. If you find one false, say at which input.
  Laid BY PROGRAM, IN A SANDBOX (cutbox-rows.mjs): the forced cells as the released guide's own fill.sh prints them over the translation fecf1a4555558e32… (all of the seat's roots in one cut). By AI agents, Wed Nov 11 2026. No macro, syntax, notation, axiom, sorry.
-/
import Derived.Test.YtfdbcgilblgbaaaChecked
import GoSem.Claim
import GoSem.ClaimJoined
import GoSem.ClaimMapViews
import Derived.JoinedTies
import Derived.KernelRfl
namespace Go.Proofs.Ytfdbcgilblgbaaa
/- THE CELL 'sum', in the pinned program and in every row, IS THE sha256 OF THE DUMP (.gsa) THAT YtfdbcgilblgbaaaProg.lean LOADS. Nothing in Lean hashes anything: it is a label: what it is worth is what the hold of that sum in a sandbox is worth. -/
noncomputable def Try.pinned : Pinned := { name := "ytfdbcgilblgbaaa", sum := "fecf1a4555558e3274118ff4931ef3fe3da4efce5b5a2f56aaa28f9a5c6b9eca", checked := Try.checked }
namespace Rows
def none {H : Type} : Left H := { results := [], args := [] }

/-- 'laws.FnExactHeilbronnBound': WHATEVER THE INPUT: true; the input reads as it did. -/
def fnExactHeilbronnBoundSpec : ChangeSpec := { name := "fnExactHeilbronnBound", fn := fun _ => fun
  | [d1, d2, d3] => { results := [.lit (.bool true)], args := [d1, d2, d3] }
  | _ => none }
def fnExactHeilbronnBoundRow : OpenClaim := { program := "ytfdbcgilblgbaaa", sum := "fecf1a4555558e3274118ff4931ef3fe3da4efce5b5a2f56aaa28f9a5c6b9eca", func := "loop.example/g03402/laws.FnExactHeilbronnBound", spec := "fnExactHeilbronnBound", apart := false }
def FnExactHeilbronnBoundSaid : Prop := fnExactHeilbronnBoundRow.holds Try.pinned (OpenSpec.ofChange fnExactHeilbronnBoundSpec)

/-- ITS FALSE NEIGHBOUR: 'it returns false'. Refute it at one input. -/
def fnExactHeilbronnBoundWrong : ChangeSpec := { name := "fnExactHeilbronnBound", fn := fun _ => fun
  | [d1, d2, d3] => { results := [.lit (.bool false)], args := [d1, d2, d3] }
  | _ => none }
def FnExactHeilbronnBoundWrongFalsely : Prop := fnExactHeilbronnBoundRow.holds Try.pinned (OpenSpec.ofChange fnExactHeilbronnBoundWrong)

/-- 'laws.FnExactIsColoring': WHATEVER THE INPUT: true; the input reads as it did. -/
def fnExactIsColoringSpec : ChangeSpec := { name := "fnExactIsColoring", fn := fun _ => fun
  | [d1, d2] => { results := [.lit (.bool true)], args := [d1, d2] }
  | _ => none }
def fnExactIsColoringRow : OpenClaim := { program := "ytfdbcgilblgbaaa", sum := "fecf1a4555558e3274118ff4931ef3fe3da4efce5b5a2f56aaa28f9a5c6b9eca", func := "loop.example/g03402/laws.FnExactIsColoring", spec := "fnExactIsColoring", apart := false }
def FnExactIsColoringSaid : Prop := fnExactIsColoringRow.holds Try.pinned (OpenSpec.ofChange fnExactIsColoringSpec)

/-- ITS FALSE NEIGHBOUR: 'it returns false'. Refute it at one input. -/
def fnExactIsColoringWrong : ChangeSpec := { name := "fnExactIsColoring", fn := fun _ => fun
  | [d1, d2] => { results := [.lit (.bool false)], args := [d1, d2] }
  | _ => none }
def FnExactIsColoringWrongFalsely : Prop := fnExactIsColoringRow.holds Try.pinned (OpenSpec.ofChange fnExactIsColoringWrong)

/-- 'laws.FnExactBinomialMod': WHATEVER THE INPUT: true; the input reads as it did. -/
def fnExactBinomialModSpec : ChangeSpec := { name := "fnExactBinomialMod", fn := fun _ => fun
  | [d1, d2, d3] => { results := [.lit (.bool true)], args := [d1, d2, d3] }
  | _ => none }
def fnExactBinomialModRow : OpenClaim := { program := "ytfdbcgilblgbaaa", sum := "fecf1a4555558e3274118ff4931ef3fe3da4efce5b5a2f56aaa28f9a5c6b9eca", func := "loop.example/g03402/laws.FnExactBinomialMod", spec := "fnExactBinomialMod", apart := false }
def FnExactBinomialModSaid : Prop := fnExactBinomialModRow.holds Try.pinned (OpenSpec.ofChange fnExactBinomialModSpec)

/-- ITS FALSE NEIGHBOUR: 'it returns false'. Refute it at one input. -/
def fnExactBinomialModWrong : ChangeSpec := { name := "fnExactBinomialMod", fn := fun _ => fun
  | [d1, d2, d3] => { results := [.lit (.bool false)], args := [d1, d2, d3] }
  | _ => none }
def FnExactBinomialModWrongFalsely : Prop := fnExactBinomialModRow.holds Try.pinned (OpenSpec.ofChange fnExactBinomialModWrong)

/-- 'laws.FnExactColoringByDigit': WHATEVER THE INPUT: true; the input reads as it did. -/
def fnExactColoringByDigitSpec : ChangeSpec := { name := "fnExactColoringByDigit", fn := fun _ => fun
  | [d1, d2] => { results := [.lit (.bool true)], args := [d1, d2] }
  | _ => none }
def fnExactColoringByDigitRow : OpenClaim := { program := "ytfdbcgilblgbaaa", sum := "fecf1a4555558e3274118ff4931ef3fe3da4efce5b5a2f56aaa28f9a5c6b9eca", func := "loop.example/g03402/laws.FnExactColoringByDigit", spec := "fnExactColoringByDigit", apart := false }
def FnExactColoringByDigitSaid : Prop := fnExactColoringByDigitRow.holds Try.pinned (OpenSpec.ofChange fnExactColoringByDigitSpec)

/-- ITS FALSE NEIGHBOUR: 'it returns false'. Refute it at one input. -/
def fnExactColoringByDigitWrong : ChangeSpec := { name := "fnExactColoringByDigit", fn := fun _ => fun
  | [d1, d2] => { results := [.lit (.bool false)], args := [d1, d2] }
  | _ => none }
def FnExactColoringByDigitWrongFalsely : Prop := fnExactColoringByDigitRow.holds Try.pinned (OpenSpec.ofChange fnExactColoringByDigitWrong)

/-- 'laws.FnExactBehrendSet': WHATEVER THE INPUT: true; the input reads as it did. -/
def fnExactBehrendSetSpec : ChangeSpec := { name := "fnExactBehrendSet", fn := fun _ => fun
  | [d] => { results := [.lit (.bool true)], args := [d] }
  | _ => none }
def fnExactBehrendSetRow : OpenClaim := { program := "ytfdbcgilblgbaaa", sum := "fecf1a4555558e3274118ff4931ef3fe3da4efce5b5a2f56aaa28f9a5c6b9eca", func := "loop.example/g03402/laws.FnExactBehrendSet", spec := "fnExactBehrendSet", apart := false }
def FnExactBehrendSetSaid : Prop := fnExactBehrendSetRow.holds Try.pinned (OpenSpec.ofChange fnExactBehrendSetSpec)

/-- ITS FALSE NEIGHBOUR: 'it returns false'. Refute it at one input. -/
def fnExactBehrendSetWrong : ChangeSpec := { name := "fnExactBehrendSet", fn := fun _ => fun
  | [d] => { results := [.lit (.bool false)], args := [d] }
  | _ => none }
def FnExactBehrendSetWrongFalsely : Prop := fnExactBehrendSetRow.holds Try.pinned (OpenSpec.ofChange fnExactBehrendSetWrong)

/-- 'laws.FnExactSchurTriple': WHATEVER THE INPUT: true; the input reads as it did. -/
def fnExactSchurTripleSpec : ChangeSpec := { name := "fnExactSchurTriple", fn := fun _ => fun
  | [d] => { results := [.lit (.bool true)], args := [d] }
  | _ => none }
def fnExactSchurTripleRow : OpenClaim := { program := "ytfdbcgilblgbaaa", sum := "fecf1a4555558e3274118ff4931ef3fe3da4efce5b5a2f56aaa28f9a5c6b9eca", func := "loop.example/g03402/laws.FnExactSchurTriple", spec := "fnExactSchurTriple", apart := false }
def FnExactSchurTripleSaid : Prop := fnExactSchurTripleRow.holds Try.pinned (OpenSpec.ofChange fnExactSchurTripleSpec)

/-- ITS FALSE NEIGHBOUR: 'it returns false'. Refute it at one input. -/
def fnExactSchurTripleWrong : ChangeSpec := { name := "fnExactSchurTriple", fn := fun _ => fun
  | [d] => { results := [.lit (.bool false)], args := [d] }
  | _ => none }
def FnExactSchurTripleWrongFalsely : Prop := fnExactSchurTripleRow.holds Try.pinned (OpenSpec.ofChange fnExactSchurTripleWrong)

/-- 'laws.FnExactCoefficientOf': WHATEVER THE INPUT: true; the input reads as it did. -/
def fnExactCoefficientOfSpec : ChangeSpec := { name := "fnExactCoefficientOf", fn := fun _ => fun
  | [d1, d2, d3, d4] => { results := [.lit (.bool true)], args := [d1, d2, d3, d4] }
  | _ => none }
def fnExactCoefficientOfRow : OpenClaim := { program := "ytfdbcgilblgbaaa", sum := "fecf1a4555558e3274118ff4931ef3fe3da4efce5b5a2f56aaa28f9a5c6b9eca", func := "loop.example/g03402/laws.FnExactCoefficientOf", spec := "fnExactCoefficientOf", apart := false }
def FnExactCoefficientOfSaid : Prop := fnExactCoefficientOfRow.holds Try.pinned (OpenSpec.ofChange fnExactCoefficientOfSpec)

/-- ITS FALSE NEIGHBOUR: 'it returns false'. Refute it at one input. -/
def fnExactCoefficientOfWrong : ChangeSpec := { name := "fnExactCoefficientOf", fn := fun _ => fun
  | [d1, d2, d3, d4] => { results := [.lit (.bool false)], args := [d1, d2, d3, d4] }
  | _ => none }
def FnExactCoefficientOfWrongFalsely : Prop := fnExactCoefficientOfRow.holds Try.pinned (OpenSpec.ofChange fnExactCoefficientOfWrong)

/-- 'laws.FnExactIsApFreeList': WHATEVER THE INPUT: true; the input reads as it did. -/
def fnExactIsApFreeListSpec : ChangeSpec := { name := "fnExactIsApFreeList", fn := fun _ => fun
  | [d] => { results := [.lit (.bool true)], args := [d] }
  | _ => none }
def fnExactIsApFreeListRow : OpenClaim := { program := "ytfdbcgilblgbaaa", sum := "fecf1a4555558e3274118ff4931ef3fe3da4efce5b5a2f56aaa28f9a5c6b9eca", func := "loop.example/g03402/laws.FnExactIsApFreeList", spec := "fnExactIsApFreeList", apart := false }
def FnExactIsApFreeListSaid : Prop := fnExactIsApFreeListRow.holds Try.pinned (OpenSpec.ofChange fnExactIsApFreeListSpec)

/-- ITS FALSE NEIGHBOUR: 'it returns false'. Refute it at one input. -/
def fnExactIsApFreeListWrong : ChangeSpec := { name := "fnExactIsApFreeList", fn := fun _ => fun
  | [d] => { results := [.lit (.bool false)], args := [d] }
  | _ => none }
def FnExactIsApFreeListWrongFalsely : Prop := fnExactIsApFreeListRow.holds Try.pinned (OpenSpec.ofChange fnExactIsApFreeListWrong)

/-- 'laws.FnExactDistinctCoefficient': WHATEVER THE INPUT: true; the input reads as it did. -/
def fnExactDistinctCoefficientSpec : ChangeSpec := { name := "fnExactDistinctCoefficient", fn := fun _ => fun
  | [d1, d2, d3] => { results := [.lit (.bool true)], args := [d1, d2, d3] }
  | _ => none }
def fnExactDistinctCoefficientRow : OpenClaim := { program := "ytfdbcgilblgbaaa", sum := "fecf1a4555558e3274118ff4931ef3fe3da4efce5b5a2f56aaa28f9a5c6b9eca", func := "loop.example/g03402/laws.FnExactDistinctCoefficient", spec := "fnExactDistinctCoefficient", apart := false }
def FnExactDistinctCoefficientSaid : Prop := fnExactDistinctCoefficientRow.holds Try.pinned (OpenSpec.ofChange fnExactDistinctCoefficientSpec)

/-- ITS FALSE NEIGHBOUR: 'it returns false'. Refute it at one input. -/
def fnExactDistinctCoefficientWrong : ChangeSpec := { name := "fnExactDistinctCoefficient", fn := fun _ => fun
  | [d1, d2, d3] => { results := [.lit (.bool false)], args := [d1, d2, d3] }
  | _ => none }
def FnExactDistinctCoefficientWrongFalsely : Prop := fnExactDistinctCoefficientRow.holds Try.pinned (OpenSpec.ofChange fnExactDistinctCoefficientWrong)

/-- 'laws.FnExactCauchyProof': WHATEVER THE INPUT: true; the input reads as it did. -/
def fnExactCauchyProofSpec : ChangeSpec := { name := "fnExactCauchyProof", fn := fun _ => fun
  | [d1, d2, d3] => { results := [.lit (.bool true)], args := [d1, d2, d3] }
  | _ => none }
def fnExactCauchyProofRow : OpenClaim := { program := "ytfdbcgilblgbaaa", sum := "fecf1a4555558e3274118ff4931ef3fe3da4efce5b5a2f56aaa28f9a5c6b9eca", func := "loop.example/g03402/laws.FnExactCauchyProof", spec := "fnExactCauchyProof", apart := false }
def FnExactCauchyProofSaid : Prop := fnExactCauchyProofRow.holds Try.pinned (OpenSpec.ofChange fnExactCauchyProofSpec)

/-- ITS FALSE NEIGHBOUR: 'it returns false'. Refute it at one input. -/
def fnExactCauchyProofWrong : ChangeSpec := { name := "fnExactCauchyProof", fn := fun _ => fun
  | [d1, d2, d3] => { results := [.lit (.bool false)], args := [d1, d2, d3] }
  | _ => none }
def FnExactCauchyProofWrongFalsely : Prop := fnExactCauchyProofRow.holds Try.pinned (OpenSpec.ofChange fnExactCauchyProofWrong)

/-- 'laws.FnExactIsSchurColoring': WHATEVER THE INPUT: true; the input reads as it did. -/
def fnExactIsSchurColoringSpec : ChangeSpec := { name := "fnExactIsSchurColoring", fn := fun _ => fun
  | [d1, d2] => { results := [.lit (.bool true)], args := [d1, d2] }
  | _ => none }
def fnExactIsSchurColoringRow : OpenClaim := { program := "ytfdbcgilblgbaaa", sum := "fecf1a4555558e3274118ff4931ef3fe3da4efce5b5a2f56aaa28f9a5c6b9eca", func := "loop.example/g03402/laws.FnExactIsSchurColoring", spec := "fnExactIsSchurColoring", apart := false }
def FnExactIsSchurColoringSaid : Prop := fnExactIsSchurColoringRow.holds Try.pinned (OpenSpec.ofChange fnExactIsSchurColoringSpec)

/-- ITS FALSE NEIGHBOUR: 'it returns false'. Refute it at one input. -/
def fnExactIsSchurColoringWrong : ChangeSpec := { name := "fnExactIsSchurColoring", fn := fun _ => fun
  | [d1, d2] => { results := [.lit (.bool false)], args := [d1, d2] }
  | _ => none }
def FnExactIsSchurColoringWrongFalsely : Prop := fnExactIsSchurColoringRow.holds Try.pinned (OpenSpec.ofChange fnExactIsSchurColoringWrong)

/-- 'laws.FnExactSidonBound': WHATEVER THE INPUT: true; the input reads as it did. -/
def fnExactSidonBoundSpec : ChangeSpec := { name := "fnExactSidonBound", fn := fun _ => fun
  | [d1, d2] => { results := [.lit (.bool true)], args := [d1, d2] }
  | _ => none }
def fnExactSidonBoundRow : OpenClaim := { program := "ytfdbcgilblgbaaa", sum := "fecf1a4555558e3274118ff4931ef3fe3da4efce5b5a2f56aaa28f9a5c6b9eca", func := "loop.example/g03402/laws.FnExactSidonBound", spec := "fnExactSidonBound", apart := false }
def FnExactSidonBoundSaid : Prop := fnExactSidonBoundRow.holds Try.pinned (OpenSpec.ofChange fnExactSidonBoundSpec)

/-- ITS FALSE NEIGHBOUR: 'it returns false'. Refute it at one input. -/
def fnExactSidonBoundWrong : ChangeSpec := { name := "fnExactSidonBound", fn := fun _ => fun
  | [d1, d2] => { results := [.lit (.bool false)], args := [d1, d2] }
  | _ => none }
def FnExactSidonBoundWrongFalsely : Prop := fnExactSidonBoundRow.holds Try.pinned (OpenSpec.ofChange fnExactSidonBoundWrong)

/- THE SECOND FORM. 'bulk': how many values and letters a reading holds, each counted each time it is reached (what is shared counts as often as it is met; a slice's spare places count too). A statement '..UptoSaid' is the law's where the arguments, and the package variables that the reading takes, are together of bulk at most 1048576: NARROWER than '..Said'. Prove '..Said' where nothing that the law and all that it calls make is longer than what came in: it says more and counts as full. Else prove '..UptoSaid'. A law counts once. -/
mutual
def uptoBulk {H : Type} : DataW H → Nat
  | .lit (.string bytes) => bytes.length + 1
  | .lit _ => 1
  | .nil => 1
  | .ptr d => uptoBulk d + 1
  | .slice elems spare => uptoBulkAll elems + uptoBulkAll spare + 1
  | .agg parts => uptoBulkAll parts + 1
  | .iface _ d => uptoBulk d + 1
  | .map entries => uptoBulkEntries entries + 1
  | .held _ => 1
def uptoBulkAll {H : Type} : List (DataW H) → Nat
  | [] => 0
  | d :: r => uptoBulk d + uptoBulkAll r
def uptoBulkEntries {H : Type} : List (Lit × DataW H) → Nat
  | [] => 0
  | x :: r => uptoBulkEntry x + uptoBulkEntries r
def uptoBulkEntry {H : Type} : Lit × DataW H → Nat
  | (.string bytes, d) => bytes.length + uptoBulk d + 1
  | (_, d) => uptoBulk d + 1
 end
def uptoSmall : (H : Type) → List (DataW H) → Bool := fun _ ds => decide (uptoBulkAll ds ≤ 1048576)
def OpenSpec.upto (s : _root_.Go.ChangeSpec) : _root_.Go.OpenSpec := { _root_.Go.OpenSpec.ofChange s with cond := some uptoSmall }

/-- 'laws.FnExactHeilbronnBound', WHERE WHAT IT READS IS OF BULK AT MOST 1048576: true; the input reads as it did. -/
def fnExactHeilbronnBoundUptoRow : OpenClaim := { program := "ytfdbcgilblgbaaa", sum := "fecf1a4555558e3274118ff4931ef3fe3da4efce5b5a2f56aaa28f9a5c6b9eca", func := "loop.example/g03402/laws.FnExactHeilbronnBound", spec := "fnExactHeilbronnBound", apart := false, narrowed := true }
def FnExactHeilbronnBoundUptoSaid : Prop := fnExactHeilbronnBoundUptoRow.holds Try.pinned (OpenSpec.upto fnExactHeilbronnBoundSpec)

/-- 'laws.FnExactIsColoring', WHERE WHAT IT READS IS OF BULK AT MOST 1048576: true; the input reads as it did. -/
def fnExactIsColoringUptoRow : OpenClaim := { program := "ytfdbcgilblgbaaa", sum := "fecf1a4555558e3274118ff4931ef3fe3da4efce5b5a2f56aaa28f9a5c6b9eca", func := "loop.example/g03402/laws.FnExactIsColoring", spec := "fnExactIsColoring", apart := false, narrowed := true }
def FnExactIsColoringUptoSaid : Prop := fnExactIsColoringUptoRow.holds Try.pinned (OpenSpec.upto fnExactIsColoringSpec)

/-- 'laws.FnExactBinomialMod', WHERE WHAT IT READS IS OF BULK AT MOST 1048576: true; the input reads as it did. -/
def fnExactBinomialModUptoRow : OpenClaim := { program := "ytfdbcgilblgbaaa", sum := "fecf1a4555558e3274118ff4931ef3fe3da4efce5b5a2f56aaa28f9a5c6b9eca", func := "loop.example/g03402/laws.FnExactBinomialMod", spec := "fnExactBinomialMod", apart := false, narrowed := true }
def FnExactBinomialModUptoSaid : Prop := fnExactBinomialModUptoRow.holds Try.pinned (OpenSpec.upto fnExactBinomialModSpec)

/-- 'laws.FnExactColoringByDigit', WHERE WHAT IT READS IS OF BULK AT MOST 1048576: true; the input reads as it did. -/
def fnExactColoringByDigitUptoRow : OpenClaim := { program := "ytfdbcgilblgbaaa", sum := "fecf1a4555558e3274118ff4931ef3fe3da4efce5b5a2f56aaa28f9a5c6b9eca", func := "loop.example/g03402/laws.FnExactColoringByDigit", spec := "fnExactColoringByDigit", apart := false, narrowed := true }
def FnExactColoringByDigitUptoSaid : Prop := fnExactColoringByDigitUptoRow.holds Try.pinned (OpenSpec.upto fnExactColoringByDigitSpec)

/-- 'laws.FnExactBehrendSet', WHERE WHAT IT READS IS OF BULK AT MOST 1048576: true; the input reads as it did. -/
def fnExactBehrendSetUptoRow : OpenClaim := { program := "ytfdbcgilblgbaaa", sum := "fecf1a4555558e3274118ff4931ef3fe3da4efce5b5a2f56aaa28f9a5c6b9eca", func := "loop.example/g03402/laws.FnExactBehrendSet", spec := "fnExactBehrendSet", apart := false, narrowed := true }
def FnExactBehrendSetUptoSaid : Prop := fnExactBehrendSetUptoRow.holds Try.pinned (OpenSpec.upto fnExactBehrendSetSpec)

/-- 'laws.FnExactSchurTriple', WHERE WHAT IT READS IS OF BULK AT MOST 1048576: true; the input reads as it did. -/
def fnExactSchurTripleUptoRow : OpenClaim := { program := "ytfdbcgilblgbaaa", sum := "fecf1a4555558e3274118ff4931ef3fe3da4efce5b5a2f56aaa28f9a5c6b9eca", func := "loop.example/g03402/laws.FnExactSchurTriple", spec := "fnExactSchurTriple", apart := false, narrowed := true }
def FnExactSchurTripleUptoSaid : Prop := fnExactSchurTripleUptoRow.holds Try.pinned (OpenSpec.upto fnExactSchurTripleSpec)

/-- 'laws.FnExactCoefficientOf', WHERE WHAT IT READS IS OF BULK AT MOST 1048576: true; the input reads as it did. -/
def fnExactCoefficientOfUptoRow : OpenClaim := { program := "ytfdbcgilblgbaaa", sum := "fecf1a4555558e3274118ff4931ef3fe3da4efce5b5a2f56aaa28f9a5c6b9eca", func := "loop.example/g03402/laws.FnExactCoefficientOf", spec := "fnExactCoefficientOf", apart := false, narrowed := true }
def FnExactCoefficientOfUptoSaid : Prop := fnExactCoefficientOfUptoRow.holds Try.pinned (OpenSpec.upto fnExactCoefficientOfSpec)

/-- 'laws.FnExactIsApFreeList', WHERE WHAT IT READS IS OF BULK AT MOST 1048576: true; the input reads as it did. -/
def fnExactIsApFreeListUptoRow : OpenClaim := { program := "ytfdbcgilblgbaaa", sum := "fecf1a4555558e3274118ff4931ef3fe3da4efce5b5a2f56aaa28f9a5c6b9eca", func := "loop.example/g03402/laws.FnExactIsApFreeList", spec := "fnExactIsApFreeList", apart := false, narrowed := true }
def FnExactIsApFreeListUptoSaid : Prop := fnExactIsApFreeListUptoRow.holds Try.pinned (OpenSpec.upto fnExactIsApFreeListSpec)

/-- 'laws.FnExactDistinctCoefficient', WHERE WHAT IT READS IS OF BULK AT MOST 1048576: true; the input reads as it did. -/
def fnExactDistinctCoefficientUptoRow : OpenClaim := { program := "ytfdbcgilblgbaaa", sum := "fecf1a4555558e3274118ff4931ef3fe3da4efce5b5a2f56aaa28f9a5c6b9eca", func := "loop.example/g03402/laws.FnExactDistinctCoefficient", spec := "fnExactDistinctCoefficient", apart := false, narrowed := true }
def FnExactDistinctCoefficientUptoSaid : Prop := fnExactDistinctCoefficientUptoRow.holds Try.pinned (OpenSpec.upto fnExactDistinctCoefficientSpec)

/-- 'laws.FnExactCauchyProof', WHERE WHAT IT READS IS OF BULK AT MOST 1048576: true; the input reads as it did. -/
def fnExactCauchyProofUptoRow : OpenClaim := { program := "ytfdbcgilblgbaaa", sum := "fecf1a4555558e3274118ff4931ef3fe3da4efce5b5a2f56aaa28f9a5c6b9eca", func := "loop.example/g03402/laws.FnExactCauchyProof", spec := "fnExactCauchyProof", apart := false, narrowed := true }
def FnExactCauchyProofUptoSaid : Prop := fnExactCauchyProofUptoRow.holds Try.pinned (OpenSpec.upto fnExactCauchyProofSpec)

/-- 'laws.FnExactIsSchurColoring', WHERE WHAT IT READS IS OF BULK AT MOST 1048576: true; the input reads as it did. -/
def fnExactIsSchurColoringUptoRow : OpenClaim := { program := "ytfdbcgilblgbaaa", sum := "fecf1a4555558e3274118ff4931ef3fe3da4efce5b5a2f56aaa28f9a5c6b9eca", func := "loop.example/g03402/laws.FnExactIsSchurColoring", spec := "fnExactIsSchurColoring", apart := false, narrowed := true }
def FnExactIsSchurColoringUptoSaid : Prop := fnExactIsSchurColoringUptoRow.holds Try.pinned (OpenSpec.upto fnExactIsSchurColoringSpec)

/-- 'laws.FnExactSidonBound', WHERE WHAT IT READS IS OF BULK AT MOST 1048576: true; the input reads as it did. -/
def fnExactSidonBoundUptoRow : OpenClaim := { program := "ytfdbcgilblgbaaa", sum := "fecf1a4555558e3274118ff4931ef3fe3da4efce5b5a2f56aaa28f9a5c6b9eca", func := "loop.example/g03402/laws.FnExactSidonBound", spec := "fnExactSidonBound", apart := false, narrowed := true }
def FnExactSidonBoundUptoSaid : Prop := fnExactSidonBoundUptoRow.holds Try.pinned (OpenSpec.upto fnExactSidonBoundSpec)

end Rows
end Go.Proofs.Ytfdbcgilblgbaaa
