/-
Contracts of both sides' CorrelationOf at sets of a group, and of IsDifferenceSet. Conditions: lengths at most 2000000.
-/
import Derived.Test.YtokpgbpdmfibjaaTab
import Derived.Deep.QuietTactic
import Derived.BigQuiet
namespace Go.Proofs.Ytokpgbpdmfibjaa
open Go.RowKit Go.ChangeShapes
set_option linter.unusedVariables false

def oppS (os : List Int) (b : Nat) : Nat := orL (gneg os) (mems b)
theorem oppS_gn {os : List Int} (hg : grpB os = true) {b : Nat} (hb : b < 18446744073709551616) : oppS os b < 2 ^ gn os := by
  apply Nat.lt_pow_two_of_testBit
  intro i hi
  cases h : (oppS os b).testBit i with
  | false => rfl
  | true =>
    obtain ⟨p, _, e⟩ := (orL_iff hb i).1 h
    have := gneg_lt' (grp_gn hg).1 p
    omega
/-- The table of differences. -/
def cor (os : List Int) (a b : Nat) : List Int := tbl os a (oppS os b)
theorem tbl_len (os : List Int) (a b : Nat) : (tbl os a b).length = gn os := by
  unfold tbl; rw [tabT_len]; simp
theorem cor_len (os : List Int) (a b : Nat) : (cor os a b).length = gn os := tbl_len _ _ _



def dsP (os : List Int) (a : Nat) : Prop := ∀ i, 2 ≤ i → i < gn os → (cor os a a).getD i 0 = (cor os a a).getD 1 0
open Classical in
noncomputable def dsB (os : List Int) (a : Int) : Bool := setB os a && (decide (2 ≤ gn os) && decide (dsP os a.toNat))
noncomputable def dsV (os : List Int) (a : Int) : Int := if dsB os a = true then (cor os a.toNat a.toNat).getD 1 0 else 0


end Go.Proofs.Ytokpgbpdmfibjaa
