/-
  No cell of these rows narrows 'for every input' (looked for: loops, veiled, ifaces, maps, wideKeys, modest, calm, conditions, laid).
  DERIVED. THE GIVEN ROWS OF THIS SEAT. 12 by the template 'for every input the law returns true; each argument reads behind the call as it read before'; 0 by the template 'total and deterministic' (their statements: YtglkeljpndhneaaTotals.lean).
  GIVEN WITH THE SEED: the statements are not yours to turn. If you find one false, say at which input.
  Laid BY PROGRAM, IN A SANDBOX (cutbox-rows.mjs): the forced cells as the released guide's own fill.sh prints them over the translation 70c0760ccb7253b4… (all of the seat's roots in one cut). By AI agents, Wed Nov 11 2026. No macro, syntax, notation, axiom, sorry.
-/
import Derived.Test.YtglkeljpndhneaaChecked
import GoSem.Claim
import GoSem.ClaimJoined
import GoSem.ClaimMapViews
import Derived.JoinedTies
import Derived.KernelRfl
namespace Go.Proofs.Ytglkeljpndhneaa
/- THE CELL 'sum', in the pinned program and in every row, IS THE sha256 OF THE DUMP (.gsa) THAT YtglkeljpndhneaaProg.lean LOADS. Nothing in Lean hashes anything: it is a label: what it is worth is what the hold of that sum in a sandbox is worth. -/
noncomputable def Try.pinned : Pinned := { name := "ytglkeljpndhneaa", sum := "70c0760ccb7253b4e9f3ef1d24aafd2b4387106ab2906b4fe80cd6a176666495", checked := Try.checked }
namespace Rows
def none {H : Type} : Left H := { results := [], args := [] }

/-- 'laws.FnExactIsSidon': WHATEVER THE INPUT: true; the input reads as it did. -/
def fnExactIsSidonSpec : ChangeSpec := { name := "fnExactIsSidon", fn := fun _ => fun
  | [d1, d2] => { results := [.lit (.bool true)], args := [d1, d2] }
  | _ => none }
def fnExactIsSidonRow : OpenClaim := { program := "ytglkeljpndhneaa", sum := "70c0760ccb7253b4e9f3ef1d24aafd2b4387106ab2906b4fe80cd6a176666495", func := "loop.example/g03402/laws.FnExactIsSidon", spec := "fnExactIsSidon", apart := false }
def FnExactIsSidonSaid : Prop := fnExactIsSidonRow.holds Try.pinned (OpenSpec.ofChange fnExactIsSidonSpec)

/-- ITS FALSE NEIGHBOUR: 'it returns false'. Refute it at one input. -/
def fnExactIsSidonWrong : ChangeSpec := { name := "fnExactIsSidon", fn := fun _ => fun
  | [d1, d2] => { results := [.lit (.bool false)], args := [d1, d2] }
  | _ => none }
def FnExactIsSidonWrongFalsely : Prop := fnExactIsSidonRow.holds Try.pinned (OpenSpec.ofChange fnExactIsSidonWrong)

/-- 'laws.FnExactIsApFree': WHATEVER THE INPUT: true; the input reads as it did. -/
def fnExactIsApFreeSpec : ChangeSpec := { name := "fnExactIsApFree", fn := fun _ => fun
  | [d1, d2] => { results := [.lit (.bool true)], args := [d1, d2] }
  | _ => none }
def fnExactIsApFreeRow : OpenClaim := { program := "ytglkeljpndhneaa", sum := "70c0760ccb7253b4e9f3ef1d24aafd2b4387106ab2906b4fe80cd6a176666495", func := "loop.example/g03402/laws.FnExactIsApFree", spec := "fnExactIsApFree", apart := false }
def FnExactIsApFreeSaid : Prop := fnExactIsApFreeRow.holds Try.pinned (OpenSpec.ofChange fnExactIsApFreeSpec)

/-- ITS FALSE NEIGHBOUR: 'it returns false'. Refute it at one input. -/
def fnExactIsApFreeWrong : ChangeSpec := { name := "fnExactIsApFree", fn := fun _ => fun
  | [d1, d2] => { results := [.lit (.bool false)], args := [d1, d2] }
  | _ => none }
def FnExactIsApFreeWrongFalsely : Prop := fnExactIsApFreeRow.holds Try.pinned (OpenSpec.ofChange fnExactIsApFreeWrong)

/-- 'laws.FnExactIsAutomorphism': WHATEVER THE INPUT: true; the input reads as it did. -/
def fnExactIsAutomorphismSpec : ChangeSpec := { name := "fnExactIsAutomorphism", fn := fun _ => fun
  | [d1, d2] => { results := [.lit (.bool true)], args := [d1, d2] }
  | _ => none }
def fnExactIsAutomorphismRow : OpenClaim := { program := "ytglkeljpndhneaa", sum := "70c0760ccb7253b4e9f3ef1d24aafd2b4387106ab2906b4fe80cd6a176666495", func := "loop.example/g03402/laws.FnExactIsAutomorphism", spec := "fnExactIsAutomorphism", apart := false }
def FnExactIsAutomorphismSaid : Prop := fnExactIsAutomorphismRow.holds Try.pinned (OpenSpec.ofChange fnExactIsAutomorphismSpec)

/-- ITS FALSE NEIGHBOUR: 'it returns false'. Refute it at one input. -/
def fnExactIsAutomorphismWrong : ChangeSpec := { name := "fnExactIsAutomorphism", fn := fun _ => fun
  | [d1, d2] => { results := [.lit (.bool false)], args := [d1, d2] }
  | _ => none }
def FnExactIsAutomorphismWrongFalsely : Prop := fnExactIsAutomorphismRow.holds Try.pinned (OpenSpec.ofChange fnExactIsAutomorphismWrong)

/-- 'laws.FnExactIsCompleteSumFree': WHATEVER THE INPUT: true; the input reads as it did. -/
def fnExactIsCompleteSumFreeSpec : ChangeSpec := { name := "fnExactIsCompleteSumFree", fn := fun _ => fun
  | [d1, d2] => { results := [.lit (.bool true)], args := [d1, d2] }
  | _ => none }
def fnExactIsCompleteSumFreeRow : OpenClaim := { program := "ytglkeljpndhneaa", sum := "70c0760ccb7253b4e9f3ef1d24aafd2b4387106ab2906b4fe80cd6a176666495", func := "loop.example/g03402/laws.FnExactIsCompleteSumFree", spec := "fnExactIsCompleteSumFree", apart := false }
def FnExactIsCompleteSumFreeSaid : Prop := fnExactIsCompleteSumFreeRow.holds Try.pinned (OpenSpec.ofChange fnExactIsCompleteSumFreeSpec)

/-- ITS FALSE NEIGHBOUR: 'it returns false'. Refute it at one input. -/
def fnExactIsCompleteSumFreeWrong : ChangeSpec := { name := "fnExactIsCompleteSumFree", fn := fun _ => fun
  | [d1, d2] => { results := [.lit (.bool false)], args := [d1, d2] }
  | _ => none }
def FnExactIsCompleteSumFreeWrongFalsely : Prop := fnExactIsCompleteSumFreeRow.holds Try.pinned (OpenSpec.ofChange fnExactIsCompleteSumFreeWrong)

/-- 'laws.FnExactGroupColoring': WHATEVER THE INPUT: true; the input reads as it did. -/
def fnExactGroupColoringSpec : ChangeSpec := { name := "fnExactGroupColoring", fn := fun _ => fun
  | [d1, d2] => { results := [.lit (.bool true)], args := [d1, d2] }
  | _ => none }
def fnExactGroupColoringRow : OpenClaim := { program := "ytglkeljpndhneaa", sum := "70c0760ccb7253b4e9f3ef1d24aafd2b4387106ab2906b4fe80cd6a176666495", func := "loop.example/g03402/laws.FnExactGroupColoring", spec := "fnExactGroupColoring", apart := false }
def FnExactGroupColoringSaid : Prop := fnExactGroupColoringRow.holds Try.pinned (OpenSpec.ofChange fnExactGroupColoringSpec)

/-- ITS FALSE NEIGHBOUR: 'it returns false'. Refute it at one input. -/
def fnExactGroupColoringWrong : ChangeSpec := { name := "fnExactGroupColoring", fn := fun _ => fun
  | [d1, d2] => { results := [.lit (.bool false)], args := [d1, d2] }
  | _ => none }
def FnExactGroupColoringWrongFalsely : Prop := fnExactGroupColoringRow.holds Try.pinned (OpenSpec.ofChange fnExactGroupColoringWrong)

/-- 'laws.FnExactSumFreePart': WHATEVER THE INPUT: true; the input reads as it did. -/
def fnExactSumFreePartSpec : ChangeSpec := { name := "fnExactSumFreePart", fn := fun _ => fun
  | [d1, d2] => { results := [.lit (.bool true)], args := [d1, d2] }
  | _ => none }
def fnExactSumFreePartRow : OpenClaim := { program := "ytglkeljpndhneaa", sum := "70c0760ccb7253b4e9f3ef1d24aafd2b4387106ab2906b4fe80cd6a176666495", func := "loop.example/g03402/laws.FnExactSumFreePart", spec := "fnExactSumFreePart", apart := false }
def FnExactSumFreePartSaid : Prop := fnExactSumFreePartRow.holds Try.pinned (OpenSpec.ofChange fnExactSumFreePartSpec)

/-- ITS FALSE NEIGHBOUR: 'it returns false'. Refute it at one input. -/
def fnExactSumFreePartWrong : ChangeSpec := { name := "fnExactSumFreePart", fn := fun _ => fun
  | [d1, d2] => { results := [.lit (.bool false)], args := [d1, d2] }
  | _ => none }
def FnExactSumFreePartWrongFalsely : Prop := fnExactSumFreePartRow.holds Try.pinned (OpenSpec.ofChange fnExactSumFreePartWrong)

/-- 'laws.FnExactCountSumFree': WHATEVER THE INPUT: true; the input reads as it did. -/
def fnExactCountSumFreeSpec : ChangeSpec := { name := "fnExactCountSumFree", fn := fun _ => fun
  | [d] => { results := [.lit (.bool true)], args := [d] }
  | _ => none }
def fnExactCountSumFreeRow : OpenClaim := { program := "ytglkeljpndhneaa", sum := "70c0760ccb7253b4e9f3ef1d24aafd2b4387106ab2906b4fe80cd6a176666495", func := "loop.example/g03402/laws.FnExactCountSumFree", spec := "fnExactCountSumFree", unfollowed := true, recurses := true, apart := false }
def FnExactCountSumFreeSaid : Prop := fnExactCountSumFreeRow.holds Try.pinned (OpenSpec.ofChange fnExactCountSumFreeSpec)

/-- ITS FALSE NEIGHBOUR: 'it returns false'. Refute it at one input. -/
def fnExactCountSumFreeWrong : ChangeSpec := { name := "fnExactCountSumFree", fn := fun _ => fun
  | [d] => { results := [.lit (.bool false)], args := [d] }
  | _ => none }
def FnExactCountSumFreeWrongFalsely : Prop := fnExactCountSumFreeRow.holds Try.pinned (OpenSpec.ofChange fnExactCountSumFreeWrong)

/-- 'laws.FnExactCountSidon': WHATEVER THE INPUT: true; the input reads as it did. -/
def fnExactCountSidonSpec : ChangeSpec := { name := "fnExactCountSidon", fn := fun _ => fun
  | [d1, d2] => { results := [.lit (.bool true)], args := [d1, d2] }
  | _ => none }
def fnExactCountSidonRow : OpenClaim := { program := "ytglkeljpndhneaa", sum := "70c0760ccb7253b4e9f3ef1d24aafd2b4387106ab2906b4fe80cd6a176666495", func := "loop.example/g03402/laws.FnExactCountSidon", spec := "fnExactCountSidon", recurses := true, apart := false }
def FnExactCountSidonSaid : Prop := fnExactCountSidonRow.holds Try.pinned (OpenSpec.ofChange fnExactCountSidonSpec)

/-- ITS FALSE NEIGHBOUR: 'it returns false'. Refute it at one input. -/
def fnExactCountSidonWrong : ChangeSpec := { name := "fnExactCountSidon", fn := fun _ => fun
  | [d1, d2] => { results := [.lit (.bool false)], args := [d1, d2] }
  | _ => none }
def FnExactCountSidonWrongFalsely : Prop := fnExactCountSidonRow.holds Try.pinned (OpenSpec.ofChange fnExactCountSidonWrong)

/-- 'laws.FnExactIsIndependent': WHATEVER THE INPUT: true; the input reads as it did. -/
def fnExactIsIndependentSpec : ChangeSpec := { name := "fnExactIsIndependent", fn := fun _ => fun
  | [d1, d2, d3] => { results := [.lit (.bool true)], args := [d1, d2, d3] }
  | _ => none }
def fnExactIsIndependentRow : OpenClaim := { program := "ytglkeljpndhneaa", sum := "70c0760ccb7253b4e9f3ef1d24aafd2b4387106ab2906b4fe80cd6a176666495", func := "loop.example/g03402/laws.FnExactIsIndependent", spec := "fnExactIsIndependent", apart := false }
def FnExactIsIndependentSaid : Prop := fnExactIsIndependentRow.holds Try.pinned (OpenSpec.ofChange fnExactIsIndependentSpec)

/-- ITS FALSE NEIGHBOUR: 'it returns false'. Refute it at one input. -/
def fnExactIsIndependentWrong : ChangeSpec := { name := "fnExactIsIndependent", fn := fun _ => fun
  | [d1, d2, d3] => { results := [.lit (.bool false)], args := [d1, d2, d3] }
  | _ => none }
def FnExactIsIndependentWrongFalsely : Prop := fnExactIsIndependentRow.holds Try.pinned (OpenSpec.ofChange fnExactIsIndependentWrong)

/-- 'laws.FnExactLargestSidon': WHATEVER THE INPUT: true; the input reads as it did. -/
def fnExactLargestSidonSpec : ChangeSpec := { name := "fnExactLargestSidon", fn := fun _ => fun
  | [d] => { results := [.lit (.bool true)], args := [d] }
  | _ => none }
def fnExactLargestSidonRow : OpenClaim := { program := "ytglkeljpndhneaa", sum := "70c0760ccb7253b4e9f3ef1d24aafd2b4387106ab2906b4fe80cd6a176666495", func := "loop.example/g03402/laws.FnExactLargestSidon", spec := "fnExactLargestSidon", unfollowed := true, recurses := true, apart := false }
def FnExactLargestSidonSaid : Prop := fnExactLargestSidonRow.holds Try.pinned (OpenSpec.ofChange fnExactLargestSidonSpec)

/-- ITS FALSE NEIGHBOUR: 'it returns false'. Refute it at one input. -/
def fnExactLargestSidonWrong : ChangeSpec := { name := "fnExactLargestSidon", fn := fun _ => fun
  | [d] => { results := [.lit (.bool false)], args := [d] }
  | _ => none }
def FnExactLargestSidonWrongFalsely : Prop := fnExactLargestSidonRow.holds Try.pinned (OpenSpec.ofChange fnExactLargestSidonWrong)

/-- 'laws.FnExactLargestSumFree': WHATEVER THE INPUT: true; the input reads as it did. -/
def fnExactLargestSumFreeSpec : ChangeSpec := { name := "fnExactLargestSumFree", fn := fun _ => fun
  | [d] => { results := [.lit (.bool true)], args := [d] }
  | _ => none }
def fnExactLargestSumFreeRow : OpenClaim := { program := "ytglkeljpndhneaa", sum := "70c0760ccb7253b4e9f3ef1d24aafd2b4387106ab2906b4fe80cd6a176666495", func := "loop.example/g03402/laws.FnExactLargestSumFree", spec := "fnExactLargestSumFree", unfollowed := true, recurses := true, apart := false }
def FnExactLargestSumFreeSaid : Prop := fnExactLargestSumFreeRow.holds Try.pinned (OpenSpec.ofChange fnExactLargestSumFreeSpec)

/-- ITS FALSE NEIGHBOUR: 'it returns false'. Refute it at one input. -/
def fnExactLargestSumFreeWrong : ChangeSpec := { name := "fnExactLargestSumFree", fn := fun _ => fun
  | [d] => { results := [.lit (.bool false)], args := [d] }
  | _ => none }
def FnExactLargestSumFreeWrongFalsely : Prop := fnExactLargestSumFreeRow.holds Try.pinned (OpenSpec.ofChange fnExactLargestSumFreeWrong)

/-- 'laws.FnExactLargestApFree': WHATEVER THE INPUT: true; the input reads as it did. -/
def fnExactLargestApFreeSpec : ChangeSpec := { name := "fnExactLargestApFree", fn := fun _ => fun
  | [d] => { results := [.lit (.bool true)], args := [d] }
  | _ => none }
def fnExactLargestApFreeRow : OpenClaim := { program := "ytglkeljpndhneaa", sum := "70c0760ccb7253b4e9f3ef1d24aafd2b4387106ab2906b4fe80cd6a176666495", func := "loop.example/g03402/laws.FnExactLargestApFree", spec := "fnExactLargestApFree", unfollowed := true, recurses := true, apart := false }
def FnExactLargestApFreeSaid : Prop := fnExactLargestApFreeRow.holds Try.pinned (OpenSpec.ofChange fnExactLargestApFreeSpec)

/-- ITS FALSE NEIGHBOUR: 'it returns false'. Refute it at one input. -/
def fnExactLargestApFreeWrong : ChangeSpec := { name := "fnExactLargestApFree", fn := fun _ => fun
  | [d] => { results := [.lit (.bool false)], args := [d] }
  | _ => none }
def FnExactLargestApFreeWrongFalsely : Prop := fnExactLargestApFreeRow.holds Try.pinned (OpenSpec.ofChange fnExactLargestApFreeWrong)

/- THE SECOND FORM. 'bulk': how many values and letters a reading holds, each counted each time it is reached (what is shared counts as often as it is met; a slice's spare places count too). A statement '..UptoSaid' is the law's where the arguments, and the package variables that the reading takes, are together of bulk at most 1048576: NARROWER than '..Said'. Prove '..Said' where nothing that the law and all that it calls make is longer than what came in: it says more and counts as full. Else prove '..UptoSaid'. A law counts once. -/
mutual
def uptoBulk {H : Type} : DataW H → Nat
  | .lit (.string bytes) => bytes.length + 1
  | .lit _ => 1
  | .nil => 1
  | .ptr d => uptoBulk d + 1
  | .slice elems spare => uptoBulkAll elems + uptoBulkAll spare + 1
  | .agg parts => uptoBulkAll parts + 1
  | .iface _ d => uptoBulk d + 1
  | .map entries => uptoBulkEntries entries + 1
  | .held _ => 1
def uptoBulkAll {H : Type} : List (DataW H) → Nat
  | [] => 0
  | d :: r => uptoBulk d + uptoBulkAll r
def uptoBulkEntries {H : Type} : List (Lit × DataW H) → Nat
  | [] => 0
  | x :: r => uptoBulkEntry x + uptoBulkEntries r
def uptoBulkEntry {H : Type} : Lit × DataW H → Nat
  | (.string bytes, d) => bytes.length + uptoBulk d + 1
  | (_, d) => uptoBulk d + 1
 end
def uptoSmall : (H : Type) → List (DataW H) → Bool := fun _ ds => decide (uptoBulkAll ds ≤ 1048576)
def OpenSpec.upto (s : _root_.Go.ChangeSpec) : _root_.Go.OpenSpec := { _root_.Go.OpenSpec.ofChange s with cond := some uptoSmall }

/-- 'laws.FnExactIsSidon', WHERE WHAT IT READS IS OF BULK AT MOST 1048576: true; the input reads as it did. -/
def fnExactIsSidonUptoRow : OpenClaim := { program := "ytglkeljpndhneaa", sum := "70c0760ccb7253b4e9f3ef1d24aafd2b4387106ab2906b4fe80cd6a176666495", func := "loop.example/g03402/laws.FnExactIsSidon", spec := "fnExactIsSidon", apart := false, narrowed := true }
def FnExactIsSidonUptoSaid : Prop := fnExactIsSidonUptoRow.holds Try.pinned (OpenSpec.upto fnExactIsSidonSpec)

/-- 'laws.FnExactIsApFree', WHERE WHAT IT READS IS OF BULK AT MOST 1048576: true; the input reads as it did. -/
def fnExactIsApFreeUptoRow : OpenClaim := { program := "ytglkeljpndhneaa", sum := "70c0760ccb7253b4e9f3ef1d24aafd2b4387106ab2906b4fe80cd6a176666495", func := "loop.example/g03402/laws.FnExactIsApFree", spec := "fnExactIsApFree", apart := false, narrowed := true }
def FnExactIsApFreeUptoSaid : Prop := fnExactIsApFreeUptoRow.holds Try.pinned (OpenSpec.upto fnExactIsApFreeSpec)

/-- 'laws.FnExactIsAutomorphism', WHERE WHAT IT READS IS OF BULK AT MOST 1048576: true; the input reads as it did. -/
def fnExactIsAutomorphismUptoRow : OpenClaim := { program := "ytglkeljpndhneaa", sum := "70c0760ccb7253b4e9f3ef1d24aafd2b4387106ab2906b4fe80cd6a176666495", func := "loop.example/g03402/laws.FnExactIsAutomorphism", spec := "fnExactIsAutomorphism", apart := false, narrowed := true }
def FnExactIsAutomorphismUptoSaid : Prop := fnExactIsAutomorphismUptoRow.holds Try.pinned (OpenSpec.upto fnExactIsAutomorphismSpec)

/-- 'laws.FnExactIsCompleteSumFree', WHERE WHAT IT READS IS OF BULK AT MOST 1048576: true; the input reads as it did. -/
def fnExactIsCompleteSumFreeUptoRow : OpenClaim := { program := "ytglkeljpndhneaa", sum := "70c0760ccb7253b4e9f3ef1d24aafd2b4387106ab2906b4fe80cd6a176666495", func := "loop.example/g03402/laws.FnExactIsCompleteSumFree", spec := "fnExactIsCompleteSumFree", apart := false, narrowed := true }
def FnExactIsCompleteSumFreeUptoSaid : Prop := fnExactIsCompleteSumFreeUptoRow.holds Try.pinned (OpenSpec.upto fnExactIsCompleteSumFreeSpec)

/-- 'laws.FnExactGroupColoring', WHERE WHAT IT READS IS OF BULK AT MOST 1048576: true; the input reads as it did. -/
def fnExactGroupColoringUptoRow : OpenClaim := { program := "ytglkeljpndhneaa", sum := "70c0760ccb7253b4e9f3ef1d24aafd2b4387106ab2906b4fe80cd6a176666495", func := "loop.example/g03402/laws.FnExactGroupColoring", spec := "fnExactGroupColoring", apart := false, narrowed := true }
def FnExactGroupColoringUptoSaid : Prop := fnExactGroupColoringUptoRow.holds Try.pinned (OpenSpec.upto fnExactGroupColoringSpec)

/-- 'laws.FnExactSumFreePart', WHERE WHAT IT READS IS OF BULK AT MOST 1048576: true; the input reads as it did. -/
def fnExactSumFreePartUptoRow : OpenClaim := { program := "ytglkeljpndhneaa", sum := "70c0760ccb7253b4e9f3ef1d24aafd2b4387106ab2906b4fe80cd6a176666495", func := "loop.example/g03402/laws.FnExactSumFreePart", spec := "fnExactSumFreePart", apart := false, narrowed := true }
def FnExactSumFreePartUptoSaid : Prop := fnExactSumFreePartUptoRow.holds Try.pinned (OpenSpec.upto fnExactSumFreePartSpec)

/-- 'laws.FnExactCountSumFree', WHERE WHAT IT READS IS OF BULK AT MOST 1048576: true; the input reads as it did. -/
def fnExactCountSumFreeUptoRow : OpenClaim := { program := "ytglkeljpndhneaa", sum := "70c0760ccb7253b4e9f3ef1d24aafd2b4387106ab2906b4fe80cd6a176666495", func := "loop.example/g03402/laws.FnExactCountSumFree", spec := "fnExactCountSumFree", unfollowed := true, recurses := true, apart := false, narrowed := true }
def FnExactCountSumFreeUptoSaid : Prop := fnExactCountSumFreeUptoRow.holds Try.pinned (OpenSpec.upto fnExactCountSumFreeSpec)

/-- 'laws.FnExactCountSidon', WHERE WHAT IT READS IS OF BULK AT MOST 1048576: true; the input reads as it did. -/
def fnExactCountSidonUptoRow : OpenClaim := { program := "ytglkeljpndhneaa", sum := "70c0760ccb7253b4e9f3ef1d24aafd2b4387106ab2906b4fe80cd6a176666495", func := "loop.example/g03402/laws.FnExactCountSidon", spec := "fnExactCountSidon", recurses := true, apart := false, narrowed := true }
def FnExactCountSidonUptoSaid : Prop := fnExactCountSidonUptoRow.holds Try.pinned (OpenSpec.upto fnExactCountSidonSpec)

/-- 'laws.FnExactIsIndependent', WHERE WHAT IT READS IS OF BULK AT MOST 1048576: true; the input reads as it did. -/
def fnExactIsIndependentUptoRow : OpenClaim := { program := "ytglkeljpndhneaa", sum := "70c0760ccb7253b4e9f3ef1d24aafd2b4387106ab2906b4fe80cd6a176666495", func := "loop.example/g03402/laws.FnExactIsIndependent", spec := "fnExactIsIndependent", apart := false, narrowed := true }
def FnExactIsIndependentUptoSaid : Prop := fnExactIsIndependentUptoRow.holds Try.pinned (OpenSpec.upto fnExactIsIndependentSpec)

/-- 'laws.FnExactLargestSidon', WHERE WHAT IT READS IS OF BULK AT MOST 1048576: true; the input reads as it did. -/
def fnExactLargestSidonUptoRow : OpenClaim := { program := "ytglkeljpndhneaa", sum := "70c0760ccb7253b4e9f3ef1d24aafd2b4387106ab2906b4fe80cd6a176666495", func := "loop.example/g03402/laws.FnExactLargestSidon", spec := "fnExactLargestSidon", unfollowed := true, recurses := true, apart := false, narrowed := true }
def FnExactLargestSidonUptoSaid : Prop := fnExactLargestSidonUptoRow.holds Try.pinned (OpenSpec.upto fnExactLargestSidonSpec)

/-- 'laws.FnExactLargestSumFree', WHERE WHAT IT READS IS OF BULK AT MOST 1048576: true; the input reads as it did. -/
def fnExactLargestSumFreeUptoRow : OpenClaim := { program := "ytglkeljpndhneaa", sum := "70c0760ccb7253b4e9f3ef1d24aafd2b4387106ab2906b4fe80cd6a176666495", func := "loop.example/g03402/laws.FnExactLargestSumFree", spec := "fnExactLargestSumFree", unfollowed := true, recurses := true, apart := false, narrowed := true }
def FnExactLargestSumFreeUptoSaid : Prop := fnExactLargestSumFreeUptoRow.holds Try.pinned (OpenSpec.upto fnExactLargestSumFreeSpec)

/-- 'laws.FnExactLargestApFree', WHERE WHAT IT READS IS OF BULK AT MOST 1048576: true; the input reads as it did. -/
def fnExactLargestApFreeUptoRow : OpenClaim := { program := "ytglkeljpndhneaa", sum := "70c0760ccb7253b4e9f3ef1d24aafd2b4387106ab2906b4fe80cd6a176666495", func := "loop.example/g03402/laws.FnExactLargestApFree", spec := "fnExactLargestApFree", unfollowed := true, recurses := true, apart := false, narrowed := true }
def FnExactLargestApFreeUptoSaid : Prop := fnExactLargestApFreeUptoRow.holds Try.pinned (OpenSpec.upto fnExactLargestApFreeSpec)

end Rows
end Go.Proofs.Ytglkeljpndhneaa
