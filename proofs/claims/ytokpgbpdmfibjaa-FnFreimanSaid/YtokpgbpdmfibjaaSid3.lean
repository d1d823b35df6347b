/-
Contracts of the reference's IsSidon, of IsSidon at sets of a group, and of both sides' LargestSidon. Conditions: lengths at most 2000000.
-/
import Derived.Test.YtokpgbpdmfibjaaSid2
import Derived.Test.YtokpgbpdmfibjaaFst
import Derived.Test.YtokpgbpdmfibjaaLgs
import Derived.Laws.EntriesVeiled
namespace Go.Proofs.Ytokpgbpdmfibjaa
open Go.RowKit Go.ChangeShapes
set_option linter.unusedVariables false

open Classical in
noncomputable def sdB (os : List Int) (a : Nat) : Bool := decide (SidP os (mems a))
theorem sdB_eq {os : List Int} {a : Nat} (hg0 : grpB os = true) (ha : a < setT os) : sidB os (a : Int) = sdB os a := by
  have hsb : setB os (a : Int) = true := by simp [setB, hg0]; omega
  unfold sidB sdB
  rw [hsb, Bool.true_and]
  rfl
theorem lt24_of2 {N b : Nat} (hN : N ≤ 24) (h : b < 2 ^ N) : b < 1099511627776 := by
  have := Nat.pow_le_pow_right (n := 2) (by decide) hN
  have e : (2 : Nat) ^ 24 = 16777216 := by decide
  omega
theorem isSidon_set (a0 : Option Addr) (c0 : Nat) (os : List Int) (a : Nat) (w : World) (h0 : Ints w a0 c0 os) (hl : os.length ≤ 2000000) (hg0 : grpB os = true) (ha : a < setT os) :
    Calls Try.prog 57 #[.agg #[.slice a0 os.length c0], .int .i64 (a : Int)] w fun e w' => e = .returned (.bool (sdB os a)) ∧ Below w.heap.size w w' := by
  have h := sid_impl a0 c0 os (a : Int) w h0 hl
  rw [sdB_eq hg0 ha] at h
  exact h


def bLargestSidon (os : List Int) : Bool := grpB os && decide (gn os ≤ 13)
/-- What LargestSidon hands back. -/
noncomputable def lvLargestSidon (os : List Int) : Nat := if bLargestSidon os = true then lgGo (sdB os) (gn os) (gn os - 0) 0 0 else 0


end Go.Proofs.Ytokpgbpdmfibjaa
