/-
Contracts of the laws' own helpers on slices of integers: copying, comparing, marking, reading marks. Conditions: lengths at most 2000000.
-/
import Derived.Test.YtokpgbpdmfibjaaInts
import Derived.Deep.QuietTactic
import Derived.BigQuiet
namespace Go.Proofs.Ytokpgbpdmfibjaa
open Go.RowKit Go.ChangeShapes

theorem take_snoc' (xs : List Int) (k : Nat) (h : k < xs.length) : xs.take (k + 1) = xs.take k ++ [xs[k]] := by
  rw [List.take_succ_eq_append_getElem h]

theorem set_mk (xs : List Int) (k : Nat) (hk : k < xs.length) :
    (((xs.take k) ++ List.replicate (xs.length - k) 0).map (Value.int .i64)).set k (.int .i64 xs[k]) = ((xs.take (k + 1)) ++ List.replicate (xs.length - (k + 1)) 0).map (Value.int .i64) := by
  rw [← List.map_set]
  congr 1
  rw [List.set_append_right _ _ (by simp; omega)]
  rw [show xs.length - k = (xs.length - (k + 1)) + 1 by omega, List.replicate_succ]
  simp only [List.length_take, show k - min k xs.length = 0 by omega, List.set_cons_zero]
  rw [take_snoc' xs k hk, List.append_assoc]
  rfl





end Go.Proofs.Ytokpgbpdmfibjaa
