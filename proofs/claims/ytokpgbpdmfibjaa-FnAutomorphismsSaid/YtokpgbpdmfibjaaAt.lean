/-
Contract of the laws' 'at': a number from 0 to 255. Conditions: at most 2000000 bytes, places up to 1000.
-/
import Derived.Test.YtokpgbpdmfibjaaDrw
namespace Go.Proofs.Ytokpgbpdmfibjaa
open Go.RowKit Go.ChangeShapes
set_option linter.unusedVariables false

set_option maxHeartbeats 1600000 in
theorem at_any (a : Option Addr) (cap n : Nat) (i : Nat) (w : World) (hb : BtS w a cap n) (hn : n ≤ 2000000) (hi : i ≤ 1000) :
    Calls Try.prog 13 #[.slice a n cap, .int .i64 (i : Int)] w fun e w' => ∃ x : Nat, e = .returned (.int .i64 (x : Int)) ∧ x ≤ 255 ∧ Below w.heap.size w w' := by
  by_cases hlt : i < n
  · rcases hb.2.2 with h0 | ⟨b, off, rfl, hbB, hcell⟩
    · omega
    obtain ⟨v, hv, dv⟩ := hcell i hlt
    have hlti : (i : Int) < n := by omega
    have hi0 : (0 : Int) ≤ (i : Int) := by omega
    have hwb : IntKind.i64.wrap (v : Int) = (v : Int) := by rw [IntKind.wrap_i64]; omega
    clear hcell
    go_enter Try.func13, Try.ntmps13
    go_wp2_with fail
    go_ret
    exact ⟨v, rfl, hv, Below.refl _ _⟩
  · have hlti : ¬ ((i : Int) < n) := by omega
    have hw1 : IntKind.i64.wrap ((i : Int) * 37) = ((i * 37 : Nat) : Int) := by rw [IntKind.wrap_i64]; omega
    have hw2 : IntKind.i64.wrap ((n : Int) * 11) = ((n * 11 : Nat) : Int) := by rw [IntKind.wrap_i64]; omega
    have hw3 : IntKind.i64.wrap (((i * 37 : Nat) : Int) + ((n * 11 : Nat) : Int)) = ((i * 37 + n * 11 : Nat) : Int) := by rw [IntKind.wrap_i64]; omega
    have hm : ((i * 37 + n * 11 : Nat) : Int).tmod 256 = (((i * 37 + n * 11) % 256 : Nat) : Int) := by rw [Int.tmod_eq_emod_of_nonneg (by omega)]; omega
    have hlm : (i * 37 + n * 11) % 256 ≤ 255 := by omega
    obtain ⟨P, hP⟩ : ∃ p, p = i * 37 := ⟨_, rfl⟩
    obtain ⟨Q, hQ⟩ : ∃ p, p = n * 11 := ⟨_, rfl⟩
    rw [← hP] at hw1 hw3 hm hlm
    rw [← hQ] at hw2 hw3 hm hlm
    obtain ⟨S, hS⟩ : ∃ p, p = P + Q := ⟨_, rfl⟩
    rw [← hS] at hw3 hm hlm
    obtain ⟨v, hv⟩ : ∃ p, p = S % 256 := ⟨_, rfl⟩
    rw [← hv] at hm hlm
    clear hP hQ hS hv
    go_enter Try.func13, Try.ntmps13
    go_wp2_with fail
    go_ret
    exact ⟨v, rfl, hlm, Below.refl _ _⟩
end Go.Proofs.Ytokpgbpdmfibjaa
