/-
Contracts of the reference's l22Sidon and IsSidon. Conditions: lengths at most 2000000, sets of a group.
-/
import Derived.Test.YtokpgbpdmfibjaaSid
import Derived.Deep.RegionWith
import Derived.Deep.QuietTactic
import Derived.BigQuiet
namespace Go.Proofs.Ytokpgbpdmfibjaa
open Go.RowKit Go.ChangeShapes
set_option linter.unusedSimpArgs false

/-- What the reference asks of one choice of places. -/
def SidQ (os l : List Int) (i j k m : Nat) : Prop := i ≤ j → j < l.length → k ≤ i → k ≤ m → m < l.length → (k ≠ i ∨ m ≠ j) → sidS os l i j ≠ sidS os l k m
theorem sidQ_of {os l : List Int} (h : SidP os l) (i j k m : Nat) : SidQ os l i j k m := by
  intro h1 h2 h3 h4 h5 h6 he
  by_cases hk : k < i
  · exact h i j h1 h2 k m ⟨h4, h5, .inl hk⟩ he.symm
  · obtain rfl : k = i := by omega
    rcases Nat.lt_or_ge m j with hm | hm
    · exact h k j h1 h2 k m ⟨h4, h5, .inr ⟨rfl, hm⟩⟩ he.symm
    · exact h k m h4 h5 k j ⟨h1, h2, .inr ⟨rfl, by omega⟩⟩ he
theorem sidP_of {os l : List Int} (h : ∀ i j k m, i < l.length → SidQ os l i j k m) : SidP os l := fun i j h1 h2 k m hb he => by
  obtain ⟨b1, b2, b3⟩ := hb
  exact h i j k m (by omega) h1 h2 (by omega) b1 b2 (by omega) he.symm

end Go.Proofs.Ytokpgbpdmfibjaa
