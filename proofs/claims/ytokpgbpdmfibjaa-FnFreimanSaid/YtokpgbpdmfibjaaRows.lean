/-
  No cell of these rows narrows 'for every input' (looked for: loops, veiled, ifaces, maps, wideKeys, modest, calm, conditions, laid).
  DERIVED. THE GIVEN ROWS OF THIS SEAT. 3 by the template 'for every input the law returns true; each argument reads behind the call as it read before'; 0 by the template 'total and deterministic' (their statements: YtokpgbpdmfibjaaTotals.lean).
  GIVEN WITH THE SEED: the statements are not yours to turn. If you find one false, say at which input.
  Laid BY PROGRAM, IN A SANDBOX (cutbox-rows.mjs): the forced cells as the released guide's own fill.sh prints them over the translation 0f63df0a2bf0d47d… (all of the seat's roots in one cut). By AI agents, Wed Nov 11 2026. No macro, syntax, notation, axiom, sorry.
-/
import Derived.Test.YtokpgbpdmfibjaaChecked
import GoSem.Claim
import GoSem.ClaimJoined
import GoSem.ClaimMapViews
import Derived.JoinedTies
import Derived.KernelRfl
namespace Go.Proofs.Ytokpgbpdmfibjaa
/- THE CELL 'sum', in the pinned program and in every row, IS THE sha256 OF THE DUMP (.gsa) THAT YtokpgbpdmfibjaaProg.lean LOADS. Nothing in Lean hashes anything: it is a label: what it is worth is what the hold of that sum in a sandbox is worth. -/
noncomputable def Try.pinned : Pinned := { name := "ytokpgbpdmfibjaa", sum := "0f63df0a2bf0d47d205831cf4ebd76d8a471e494bc95d26cfe4437d12fce3df9", checked := Try.checked }
namespace Rows
def none {H : Type} : Left H := { results := [], args := [] }

/-- 'laws.FnAutomorphisms': WHATEVER THE INPUT: true; the input reads as it did. -/
def fnAutomorphismsSpec : ChangeSpec := { name := "fnAutomorphisms", fn := fun _ => fun
  | [d] => { results := [.lit (.bool true)], args := [d] }
  | _ => none }
def fnAutomorphismsRow : OpenClaim := { program := "ytokpgbpdmfibjaa", sum := "0f63df0a2bf0d47d205831cf4ebd76d8a471e494bc95d26cfe4437d12fce3df9", func := "loop.example/g03402/laws.FnAutomorphisms", spec := "fnAutomorphisms", unfollowed := true, recurses := true, apart := false }
def FnAutomorphismsSaid : Prop := fnAutomorphismsRow.holds Try.pinned (OpenSpec.ofChange fnAutomorphismsSpec)

/-- ITS FALSE NEIGHBOUR: 'it returns false'. Refute it at one input. -/
def fnAutomorphismsWrong : ChangeSpec := { name := "fnAutomorphisms", fn := fun _ => fun
  | [d] => { results := [.lit (.bool false)], args := [d] }
  | _ => none }
def FnAutomorphismsWrongFalsely : Prop := fnAutomorphismsRow.holds Try.pinned (OpenSpec.ofChange fnAutomorphismsWrong)

/-- 'laws.FnRado': WHATEVER THE INPUT: true; the input reads as it did. -/
def fnRadoSpec : ChangeSpec := { name := "fnRado", fn := fun _ => fun
  | [d] => { results := [.lit (.bool true)], args := [d] }
  | _ => none }
def fnRadoRow : OpenClaim := { program := "ytokpgbpdmfibjaa", sum := "0f63df0a2bf0d47d205831cf4ebd76d8a471e494bc95d26cfe4437d12fce3df9", func := "loop.example/g03402/laws.FnRado", spec := "fnRado", unfollowed := true, recurses := true, apart := false }
def FnRadoSaid : Prop := fnRadoRow.holds Try.pinned (OpenSpec.ofChange fnRadoSpec)

/-- ITS FALSE NEIGHBOUR: 'it returns false'. Refute it at one input. -/
def fnRadoWrong : ChangeSpec := { name := "fnRado", fn := fun _ => fun
  | [d] => { results := [.lit (.bool false)], args := [d] }
  | _ => none }
def FnRadoWrongFalsely : Prop := fnRadoRow.holds Try.pinned (OpenSpec.ofChange fnRadoWrong)

/-- 'laws.FnFreiman': WHATEVER THE INPUT: true; the input reads as it did. -/
def fnFreimanSpec : ChangeSpec := { name := "fnFreiman", fn := fun _ => fun
  | [d] => { results := [.lit (.bool true)], args := [d] }
  | _ => none }
def fnFreimanRow : OpenClaim := { program := "ytokpgbpdmfibjaa", sum := "0f63df0a2bf0d47d205831cf4ebd76d8a471e494bc95d26cfe4437d12fce3df9", func := "loop.example/g03402/laws.FnFreiman", spec := "fnFreiman", unfollowed := true, recurses := true, apart := false }
def FnFreimanSaid : Prop := fnFreimanRow.holds Try.pinned (OpenSpec.ofChange fnFreimanSpec)

/-- ITS FALSE NEIGHBOUR: 'it returns false'. Refute it at one input. -/
def fnFreimanWrong : ChangeSpec := { name := "fnFreiman", fn := fun _ => fun
  | [d] => { results := [.lit (.bool false)], args := [d] }
  | _ => none }
def FnFreimanWrongFalsely : Prop := fnFreimanRow.holds Try.pinned (OpenSpec.ofChange fnFreimanWrong)

/- THE SECOND FORM. 'bulk': how many values and letters a reading holds, each counted each time it is reached (what is shared counts as often as it is met; a slice's spare places count too). A statement '..UptoSaid' is the law's where the arguments, and the package variables that the reading takes, are together of bulk at most 1048576: NARROWER than '..Said'. Prove '..Said' where nothing that the law and all that it calls make is longer than what came in: it says more and counts as full. Else prove '..UptoSaid'. A law counts once. -/
mutual
def uptoBulk {H : Type} : DataW H → Nat
  | .lit (.string bytes) => bytes.length + 1
  | .lit _ => 1
  | .nil => 1
  | .ptr d => uptoBulk d + 1
  | .slice elems spare => uptoBulkAll elems + uptoBulkAll spare + 1
  | .agg parts => uptoBulkAll parts + 1
  | .iface _ d => uptoBulk d + 1
  | .map entries => uptoBulkEntries entries + 1
  | .held _ => 1
def uptoBulkAll {H : Type} : List (DataW H) → Nat
  | [] => 0
  | d :: r => uptoBulk d + uptoBulkAll r
def uptoBulkEntries {H : Type} : List (Lit × DataW H) → Nat
  | [] => 0
  | x :: r => uptoBulkEntry x + uptoBulkEntries r
def uptoBulkEntry {H : Type} : Lit × DataW H → Nat
  | (.string bytes, d) => bytes.length + uptoBulk d + 1
  | (_, d) => uptoBulk d + 1
 end
def uptoSmall : (H : Type) → List (DataW H) → Bool := fun _ ds => decide (uptoBulkAll ds ≤ 1048576)
def OpenSpec.upto (s : _root_.Go.ChangeSpec) : _root_.Go.OpenSpec := { _root_.Go.OpenSpec.ofChange s with cond := some uptoSmall }

/-- 'laws.FnAutomorphisms', WHERE WHAT IT READS IS OF BULK AT MOST 1048576: true; the input reads as it did. -/
def fnAutomorphismsUptoRow : OpenClaim := { program := "ytokpgbpdmfibjaa", sum := "0f63df0a2bf0d47d205831cf4ebd76d8a471e494bc95d26cfe4437d12fce3df9", func := "loop.example/g03402/laws.FnAutomorphisms", spec := "fnAutomorphisms", unfollowed := true, recurses := true, apart := false, narrowed := true }
def FnAutomorphismsUptoSaid : Prop := fnAutomorphismsUptoRow.holds Try.pinned (OpenSpec.upto fnAutomorphismsSpec)

/-- 'laws.FnRado', WHERE WHAT IT READS IS OF BULK AT MOST 1048576: true; the input reads as it did. -/
def fnRadoUptoRow : OpenClaim := { program := "ytokpgbpdmfibjaa", sum := "0f63df0a2bf0d47d205831cf4ebd76d8a471e494bc95d26cfe4437d12fce3df9", func := "loop.example/g03402/laws.FnRado", spec := "fnRado", unfollowed := true, recurses := true, apart := false, narrowed := true }
def FnRadoUptoSaid : Prop := fnRadoUptoRow.holds Try.pinned (OpenSpec.upto fnRadoSpec)

/-- 'laws.FnFreiman', WHERE WHAT IT READS IS OF BULK AT MOST 1048576: true; the input reads as it did. -/
def fnFreimanUptoRow : OpenClaim := { program := "ytokpgbpdmfibjaa", sum := "0f63df0a2bf0d47d205831cf4ebd76d8a471e494bc95d26cfe4437d12fce3df9", func := "loop.example/g03402/laws.FnFreiman", spec := "fnFreiman", unfollowed := true, recurses := true, apart := false, narrowed := true }
def FnFreimanUptoSaid : Prop := fnFreimanUptoRow.holds Try.pinned (OpenSpec.upto fnFreimanSpec)

end Rows
end Go.Proofs.Ytokpgbpdmfibjaa
