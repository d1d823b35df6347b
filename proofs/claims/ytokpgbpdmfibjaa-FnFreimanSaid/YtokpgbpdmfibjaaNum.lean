/-
Contracts of the small number functions of the program and of the reference: bounds tests, primes up to 23. No condition.
-/
import Derived.Test.YtokpgbpdmfibjaaRows
import Derived.WalkKit
import Derived.Lib.Hide
namespace Go.Proofs.Ytokpgbpdmfibjaa
open Go.RowKit

/-- x lies in lo..hi. -/
def inB (x lo hi : Int) : Bool := decide (lo ≤ x ∧ x ≤ hi)
theorem inB_true {x lo hi : Int} : inB x lo hi = true ↔ lo ≤ x ∧ x ≤ hi := by simp [inB]
theorem inB_false {x lo hi : Int} : inB x lo hi = false ↔ (x < lo ∨ hi < x) := by simp [inB]; omega

theorem ret_bool {a b : Bool} (h : a = b) : Ending.returned (.bool a) = .returned (.bool b) := by rw [h]
theorem ret_int {k : IntKind} {a b : Int} (h : a = b) : Ending.returned (.int k a) = .returned (.int k b) := by rw [h]

theorem within_any (x lo hi : Int) (w : World) :
    Calls Try.prog 103 #[.int .i64 x, .int .i64 lo, .int .i64 hi] w fun e w' => e = .returned (.bool (inB x lo hi)) ∧ w = w' := by
  by_cases h1 : lo ≤ x
  · by_cases h2 : x ≤ hi
    · go_enter Try.func103, Try.ntmps103
      go_wp2
      go_ret
      exact ⟨ret_bool (by simp [inB]; omega), rfl⟩
    · go_enter Try.func103, Try.ntmps103
      go_wp2
      go_ret
      exact ⟨ret_bool (by simp [inB]; omega), rfl⟩
  · go_enter Try.func103, Try.ntmps103
    go_wp2
    go_ret
    exact ⟨ret_bool (by simp [inB]; omega), rfl⟩
theorem within_is (x lo hi : Int) (b : Bool) (hb : inB x lo hi = b) (w : World) :
    Calls Try.prog 103 #[.int .i64 x, .int .i64 lo, .int .i64 hi] w fun e w' => e = .returned (.bool b) ∧ w = w' := by
  subst hb; exact within_any x lo hi w

theorem l1In_any (x lo hi : Int) (w : World) :
    Calls Try.prog 105 #[.int .i64 x, .int .i64 lo, .int .i64 hi] w fun e w' => e = .returned (.bool (inB x lo hi)) ∧ w = w' := by
  by_cases h1 : lo ≤ x
  · by_cases h2 : x ≤ hi
    · go_enter Try.func105, Try.ntmps105
      go_wp2
      go_ret
      exact ⟨ret_bool (by simp [inB]; omega), rfl⟩
    · go_enter Try.func105, Try.ntmps105
      go_wp2
      go_ret
      exact ⟨ret_bool (by simp [inB]; omega), rfl⟩
  · go_enter Try.func105, Try.ntmps105
    go_wp2
    go_ret
    exact ⟨ret_bool (by simp [inB]; omega), rfl⟩
theorem l1In_is (x lo hi : Int) (b : Bool) (hb : inB x lo hi = b) (w : World) :
    Calls Try.prog 105 #[.int .i64 x, .int .i64 lo, .int .i64 hi] w fun e w' => e = .returned (.bool b) ∧ w = w' := by
  subst hb; exact l1In_any x lo hi w

/-- The primes up to 23. -/
def prmB (p : Int) : Bool := decide (p ∈ [2, 3, 5, 7, 11, 13, 17, 19, 23])
theorem prm_bd {p : Int} (h : prmB p = true) : 2 ≤ p ∧ p ≤ 23 := by simp [prmB] at h; omega


theorem prm_of (p d : Int) (h1 : 2 ≤ d) (h2 : d < p) (h3 : p ≤ 23) (h4 : p % d = 0) : prmB p = false := by
  obtain ⟨p, rfl⟩ := Int.eq_ofNat_of_zero_le (by omega : 0 ≤ p)
  obtain ⟨d, rfl⟩ := Int.eq_ofNat_of_zero_le (by omega : 0 ≤ d)
  have key : ∀ p : Nat, p < 24 → ∀ d : Nat, d < 24 → 2 ≤ d → d < p → p % d = 0 → prmB p = false := by decide
  exact key p (by omega) d (by omega) (by omega) (by omega) (by omega)
theorem prm_no (p : Int) (h1 : 2 ≤ p) (h2 : p ≤ 23) (h : ∀ d : Nat, 2 ≤ d → (d : Int) < p → p % d ≠ 0) : prmB p = true := by
  obtain ⟨p, rfl⟩ := Int.eq_ofNat_of_zero_le (by omega : 0 ≤ p)
  have key : ∀ p : Nat, p < 24 → 2 ≤ p → (∀ d : Nat, d < 24 → ¬ (2 ≤ d ∧ d < p ∧ p % d = 0)) → prmB p = true := by decide
  exact key p (by omega) (by omega) fun d _ ⟨h2, h3, h4⟩ => by have := h d h2 (by omega); omega
theorem prm_out (p : Int) (h : p < 2 ∨ 23 < p) : prmB p = false := by
  simp [prmB]; omega

end Go.Proofs.Ytokpgbpdmfibjaa
