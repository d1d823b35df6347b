/-
Values of CountSet, OrderOf, IsSet at sets of a group. No condition.
-/
import Derived.Test.YtbidkjhgodkamaaGct
namespace Go.Proofs.Ytbidkjhgodkamaa
open Go.RowKit Go.ChangeShapes
set_option linter.unusedVariables false

theorem setB_of {os : List Int} {a : Nat} (hg : grpB os = true) (ha : a < 2 ^ gn os) : setB os (a : Int) = true := by
  obtain ⟨g2, g3, g4, g5, g6⟩ := grp_gn hg
  simp only [setB, hg, Bool.true_and, Bool.and_eq_true, decide_eq_true_eq]
  rw [g6]
  exact ⟨by omega, by exact_mod_cast ha⟩
theorem cntV_of {os : List Int} {a : Nat} (hg : grpB os = true) (ha : a < 2 ^ gn os) : cntV os (a : Int) = (popc a : Int) := by
  unfold cntV
  rw [if_pos (setB_of hg ha), Int.toNat_natCast]
theorem ordV_of {os : List Int} (hg : grpB os = true) : ordV os = (gn os : Int) := by
  obtain ⟨g2, g3, g4, g5, g6⟩ := grp_gn hg
  unfold ordV
  rw [if_pos hg, g5]
theorem cntV_bd (os : List Int) (a : Int) : -1 ≤ cntV os a ∧ cntV os a ≤ 64 := by
  unfold cntV
  split
  · have := popc_le64 a.toNat
    omega
  · omega
end Go.Proofs.Ytbidkjhgodkamaa
