/-
The opening of a law's arguments: a slice of integers, a group (a struct of one such slice), by value. No condition.
-/
import Derived.Test.YtokpgbpdmfibjaaInts
import Derived.OpenShut
import Derived.ShutString
import Derived.ChangeOld
import Derived.Lib.SmallJoins
namespace Go.Proofs.Ytokpgbpdmfibjaa
open Go.ChangeShapes Go.WideShapes Go.ChangeAt Go.RowKit Go.Joins

theorem own : ownKnob Try.prog.godebug = none := by kernel_rfl
theorem laidOut : laidOutB Try.prog = true := by kernel_rfl

set_option maxRecDepth 100000 in
theorem ints_trod {H : Type} {enc : TypeId × Value → H} {W : World} {v : Value} {fuel : Nat} {x : DataW H × List MemPlace}
    (hf : DataW.trod enc Try.prog W 0 (fun _ => true) true fuel 24 [v] = some x) :
    ∃ a c xs, v = .slice a (xs : List Int).length c ∧ Ints W a c xs := by
  rcases open_ints Try.underlying24 Try.underlying3 (by kernel_rfl) hf with ⟨hcs, _⟩ | ⟨x, l, c, zs, hcs, _, hl, hm, hz, _, hcell, hwz⟩
  · simp at hcs
    subst hcs
    exact ⟨none, 0, [], rfl, by simp, by simp [maxLen], fun _ => rfl, by simp, .inl rfl⟩
  · simp at hcs
    subst hcs
    obtain ⟨h1, h2⟩ := ints_of hl hm (by simpa using hz) hcell hwz
    exact ⟨some x, c, zs.take l, by rw [h1], h2⟩

set_option maxRecDepth 100000 in
theorem open_intS {H : Type} {enc : TypeId × Value → H} {W : World} {r : Reach} {b0 : Nat} {v : Value} {d : DataW H} {p : List MemPlace} (hv : Value.okWide Try.prog W r b0 24 v)
    (h : DataW.Trod enc Try.prog W 0 (fun _ => true) true 24 v d p) : ∃ a c xs, v = .slice a (xs : List Int).length c ∧ Ints W a c xs := by
  obtain ⟨a, len, cap, rfl⟩ := okWide_slice Try.underlying24 hv
  obtain ⟨fuel, hf⟩ := h
  exact ints_trod (by simpa [Value.cells] using hf)

end Go.Proofs.Ytokpgbpdmfibjaa
