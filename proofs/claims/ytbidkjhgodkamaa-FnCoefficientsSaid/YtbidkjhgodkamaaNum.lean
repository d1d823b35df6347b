/-
Contracts of the small number functions of the program and of the reference: bounds tests, primes up to 23. No condition.
-/
import Derived.Test.YtbidkjhgodkamaaRows
import Derived.WalkKit
import Derived.Lib.Hide
namespace Go.Proofs.Ytbidkjhgodkamaa
open Go.RowKit

/-- x lies in lo..hi. -/
def inB (x lo hi : Int) : Bool := decide (lo ≤ x ∧ x ≤ hi)
theorem inB_true {x lo hi : Int} : inB x lo hi = true ↔ lo ≤ x ∧ x ≤ hi := by simp [inB]
theorem inB_false {x lo hi : Int} : inB x lo hi = false ↔ (x < lo ∨ hi < x) := by simp [inB]; omega

theorem ret_bool {a b : Bool} (h : a = b) : Ending.returned (.bool a) = .returned (.bool b) := by rw [h]
theorem ret_int {k : IntKind} {a b : Int} (h : a = b) : Ending.returned (.int k a) = .returned (.int k b) := by rw [h]

theorem within_any (x lo hi : Int) (w : World) :
    Calls Try.prog 196 #[.int .i64 x, .int .i64 lo, .int .i64 hi] w fun e w' => e = .returned (.bool (inB x lo hi)) ∧ w = w' := by
  by_cases h1 : lo ≤ x
  · by_cases h2 : x ≤ hi
    · go_enter Try.func196, Try.ntmps196
      go_wp2
      go_ret
      exact ⟨ret_bool (by simp [inB]; omega), rfl⟩
    · go_enter Try.func196, Try.ntmps196
      go_wp2
      go_ret
      exact ⟨ret_bool (by simp [inB]; omega), rfl⟩
  · go_enter Try.func196, Try.ntmps196
    go_wp2
    go_ret
    exact ⟨ret_bool (by simp [inB]; omega), rfl⟩
theorem within_is (x lo hi : Int) (b : Bool) (hb : inB x lo hi = b) (w : World) :
    Calls Try.prog 196 #[.int .i64 x, .int .i64 lo, .int .i64 hi] w fun e w' => e = .returned (.bool b) ∧ w = w' := by
  subst hb; exact within_any x lo hi w

theorem l1In_any (x lo hi : Int) (w : World) :
    Calls Try.prog 202 #[.int .i64 x, .int .i64 lo, .int .i64 hi] w fun e w' => e = .returned (.bool (inB x lo hi)) ∧ w = w' := by
  by_cases h1 : lo ≤ x
  · by_cases h2 : x ≤ hi
    · go_enter Try.func202, Try.ntmps202
      go_wp2
      go_ret
      exact ⟨ret_bool (by simp [inB]; omega), rfl⟩
    · go_enter Try.func202, Try.ntmps202
      go_wp2
      go_ret
      exact ⟨ret_bool (by simp [inB]; omega), rfl⟩
  · go_enter Try.func202, Try.ntmps202
    go_wp2
    go_ret
    exact ⟨ret_bool (by simp [inB]; omega), rfl⟩
theorem l1In_is (x lo hi : Int) (b : Bool) (hb : inB x lo hi = b) (w : World) :
    Calls Try.prog 202 #[.int .i64 x, .int .i64 lo, .int .i64 hi] w fun e w' => e = .returned (.bool b) ∧ w = w' := by
  subst hb; exact l1In_any x lo hi w

/-- The primes up to 23. -/
def prmB (p : Int) : Bool := decide (p ∈ [2, 3, 5, 7, 11, 13, 17, 19, 23])
theorem prm_bd {p : Int} (h : prmB p = true) : 2 ≤ p ∧ p ≤ 23 := by simp [prmB] at h; omega

theorem l26Prime_any (p : Int) (w : World) :
    Calls Try.prog 249 #[.int .i64 p] w fun e w' => e = .returned (.bool (prmB p)) ∧ w = w' := by
  by_cases h2 : p = 2
  · subst h2; go_enter Try.func249, Try.ntmps249; go_wp2; go_ret; exact ⟨rfl, rfl⟩
  by_cases h3 : p = 3
  · subst h3; go_enter Try.func249, Try.ntmps249; go_wp2; go_ret; exact ⟨rfl, rfl⟩
  by_cases h5 : p = 5
  · subst h5; go_enter Try.func249, Try.ntmps249; go_wp2; go_ret; exact ⟨rfl, rfl⟩
  by_cases h7 : p = 7
  · subst h7; go_enter Try.func249, Try.ntmps249; go_wp2; go_ret; exact ⟨rfl, rfl⟩
  by_cases h11 : p = 11
  · subst h11; go_enter Try.func249, Try.ntmps249; go_wp2; go_ret; exact ⟨rfl, rfl⟩
  by_cases h13 : p = 13
  · subst h13; go_enter Try.func249, Try.ntmps249; go_wp2; go_ret; exact ⟨rfl, rfl⟩
  by_cases h17 : p = 17
  · subst h17; go_enter Try.func249, Try.ntmps249; go_wp2; go_ret; exact ⟨rfl, rfl⟩
  by_cases h19 : p = 19
  · subst h19; go_enter Try.func249, Try.ntmps249; go_wp2; go_ret; exact ⟨rfl, rfl⟩
  by_cases h23 : p = 23
  · subst h23; go_enter Try.func249, Try.ntmps249; go_wp2; go_ret; exact ⟨rfl, rfl⟩
  go_enter Try.func249, Try.ntmps249
  go_wp2
  go_ret
  exact ⟨ret_bool (by simp [prmB, h2, h3, h5, h7, h11, h13, h17, h19, h23]), rfl⟩
theorem l26Prime_is (p : Int) (b : Bool) (hb : prmB p = b) (w : World) :
    Calls Try.prog 249 #[.int .i64 p] w fun e w' => e = .returned (.bool b) ∧ w = w' := by
  subst hb; exact l26Prime_any p w

theorem prm_of (p d : Int) (h1 : 2 ≤ d) (h2 : d < p) (h3 : p ≤ 23) (h4 : p % d = 0) : prmB p = false := by
  obtain ⟨p, rfl⟩ := Int.eq_ofNat_of_zero_le (by omega : 0 ≤ p)
  obtain ⟨d, rfl⟩ := Int.eq_ofNat_of_zero_le (by omega : 0 ≤ d)
  have key : ∀ p : Nat, p < 24 → ∀ d : Nat, d < 24 → 2 ≤ d → d < p → p % d = 0 → prmB p = false := by decide
  exact key p (by omega) d (by omega) (by omega) (by omega) (by omega)
theorem prm_no (p : Int) (h1 : 2 ≤ p) (h2 : p ≤ 23) (h : ∀ d : Nat, 2 ≤ d → (d : Int) < p → p % d ≠ 0) : prmB p = true := by
  obtain ⟨p, rfl⟩ := Int.eq_ofNat_of_zero_le (by omega : 0 ≤ p)
  have key : ∀ p : Nat, p < 24 → 2 ≤ p → (∀ d : Nat, d < 24 → ¬ (2 ≤ d ∧ d < p ∧ p % d = 0)) → prmB p = true := by decide
  exact key p (by omega) (by omega) fun d _ ⟨h2, h3, h4⟩ => by have := h d h2 (by omega); omega
theorem prm_out (p : Int) (h : p < 2 ∨ 23 < p) : prmB p = false := by
  simp [prmB]; omega

set_option maxHeartbeats 400000 in
theorem isPrime_any (p : Int) (w : World) :
    Calls Try.prog 247 #[.int .i64 p] w fun e w' => e = .returned (.bool (prmB p)) ∧ w = w' := by
  by_cases h : 2 ≤ p ∧ p ≤ 23
  · obtain ⟨h1, h2⟩ := h
    go_enter Try.func247, Try.ntmps247
    go_wp2_with fail
    go_loop [3] (fun i => ∃ k : Nat, 2 ≤ k ∧ k ≤ p ∧ i = .int .i64 k ∧ Hid (∀ d : Nat, 2 ≤ d → d < k → p % d ≠ 0)) (fun i => (p - intOf i).toNat)
    case atStart => exact ⟨2, by omega, by omega, rfl, fun d _ _ => by omega⟩
    case round =>
      obtain ⟨k, hk1, hk2, rfl, H⟩ := hrel
      by_cases hlt : (k : Int) < p
      · have hpos : (0 : Int) < k := by omega
        by_cases hd : p % (k : Int) = 0
        · go_wp2_with fail
          go_ret
          exact ⟨ret_bool (prm_of p k (by omega) hlt h2 hd).symm, rfl⟩
        · go_wp2_with fail
          go_round
          case rel => exact ⟨k + 1, by omega, by omega, by go_num, fun d h3 h4 => by
            by_cases e : d = k
            · subst e; exact hd
            · exact H.out d h3 (by omega)⟩
          case measure => simp [intOf]; omega
      · go_wp2_with (go_at_call 196; refine (within_any _ _ _ _).mono ?_; rintro e w' ⟨rfl, rfl⟩)
        go_ret
        exact ⟨ret_bool (by rw [prm_no p h1 h2 fun d h3 h4 => H.out d h3 (by omega)]; simp [inB]; omega), rfl⟩
  · have hp := prm_out p (by omega)
    go_enter Try.func247, Try.ntmps247
    go_wp2_with fail
    refine wp_loop_once ?_
    by_cases hlt : 2 < p
    · have h23 : ¬ p ≤ 23 := by omega
      go_wp2_with (go_at_call 196; refine (within_any _ _ _ _).mono ?_; rintro e w' ⟨rfl, rfl⟩)
      go_ret
      exact ⟨ret_bool (by rw [hp]; simp [inB]; omega), rfl⟩
    · go_wp2_with (go_at_call 196; refine (within_any _ _ _ _).mono ?_; rintro e w' ⟨rfl, rfl⟩)
      go_ret
      exact ⟨ret_bool (by rw [hp]; simp [inB]; omega), rfl⟩
theorem isPrime_is (p : Int) (b : Bool) (hb : prmB p = b) (w : World) :
    Calls Try.prog 247 #[.int .i64 p] w fun e w' => e = .returned (.bool b) ∧ w = w' := by
  subst hb; exact isPrime_any p w
end Go.Proofs.Ytbidkjhgodkamaa
