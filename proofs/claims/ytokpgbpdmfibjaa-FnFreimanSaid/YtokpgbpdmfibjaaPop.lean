/-
The number of a set's bits, plain laws; contracts of bits and l3Bits. Conditions: sets below 2^40.
-/
import Derived.Test.YtokpgbpdmfibjaaMem
namespace Go.Proofs.Ytokpgbpdmfibjaa
open Go.RowKit Go.ChangeShapes

/-- The number of a set's bits below k. -/
def bcTo (a : Nat) : Nat → Nat
  | 0 => 0
  | k + 1 => bcTo a k + (a.testBit k).toNat
/-- The number of a set's bits. -/
def popc (a : Nat) : Nat := bcTo a 64
theorem memsTo_length (a : Nat) : ∀ k, (memsTo a k).length = bcTo a k
  | 0 => rfl
  | k + 1 => by
    unfold memsTo bcTo
    rw [← memsTo_length a k]
    cases h : a.testBit k <;> simp
theorem mems_length (a : Nat) : (mems a).length = popc a := memsTo_length a 64
theorem bcTo_le (a : Nat) : ∀ k, bcTo a k ≤ k
  | 0 => Nat.le_refl _
  | k + 1 => by
    have := bcTo_le a k
    unfold bcTo
    cases a.testBit k <;> simp <;> omega
theorem popc_le64 (a : Nat) : popc a ≤ 64 := bcTo_le a 64
theorem bcTo_end {a k : Nat} (h : a < 2 ^ k) : ∀ m, bcTo a (k + m) = bcTo a k
  | 0 => rfl
  | m + 1 => by
    have ht : a.testBit (k + m) = false := Nat.testBit_lt_two_pow (Nat.lt_of_lt_of_le h (Nat.pow_le_pow_right (by decide) (Nat.le_add_right _ _)))
    rw [← Nat.add_assoc, bcTo, ht, bcTo_end h m]; rfl
theorem popc_at {a k : Nat} (h : a < 2 ^ k) (hk : k ≤ 64) : popc a = bcTo a k := by
  have := bcTo_end h (64 - k)
  rw [Nat.add_sub_cancel' hk] at this
  exact this
theorem popc_le {a k : Nat} (h : a < 2 ^ k) (hk : k ≤ 64) : popc a ≤ k := by
  rw [popc_at h hk]; exact bcTo_le a k
theorem bcTo_congr {a b : Nat} : ∀ {k : Nat}, (∀ i, i < k → a.testBit i = b.testBit i) → bcTo a k = bcTo b k
  | 0, _ => rfl
  | k + 1, h => by
    unfold bcTo
    rw [bcTo_congr (fun i hi => h i (by omega)), h k (by omega)]
theorem bcTo_or {a x : Nat} (h : a.testBit x = false) : ∀ k, bcTo (a ||| 2 ^ x) k = bcTo a k + if x < k then 1 else 0
  | 0 => rfl
  | k + 1 => by
    unfold bcTo
    rw [bcTo_or h k, Nat.testBit_or, Nat.testBit_two_pow]
    by_cases e : x = k
    · subst e; simp [h]
    · rcases Nat.lt_or_gt_of_ne e with e1 | e1
      · simp [e, e1, show x < k + 1 by omega]; omega
      · simp [e, show ¬ x < k by omega, show ¬ x < k + 1 by omega]
theorem popc_or {a x : Nat} (h : a.testBit x = false) (hx : x < 64) : popc (a ||| 2 ^ x) = popc a + 1 := by
  unfold popc; rw [bcTo_or h, if_pos hx]
theorem popc_zero : popc 0 = 0 := by decide
theorem bcTo_mono {a b : Nat} (h : ∀ i, a.testBit i = true → b.testBit i = true) : ∀ k, bcTo a k ≤ bcTo b k
  | 0 => Nat.le_refl _
  | k + 1 => by
    have := bcTo_mono h k
    have h2 := h k
    unfold bcTo
    cases e1 : a.testBit k <;> cases e2 : b.testBit k <;> simp_all <;> omega
theorem popc_mono {a b : Nat} (h : ∀ i, a.testBit i = true → b.testBit i = true) : popc a ≤ popc b := bcTo_mono h 64
theorem bcTo_full {n : Nat} : ∀ {k : Nat}, k ≤ n → bcTo (2 ^ n - 1) k = k
  | 0, _ => rfl
  | k + 1, h => by
    unfold bcTo
    rw [bcTo_full (show k ≤ n by omega), Nat.testBit_two_pow_sub_one]
    simp [show k < n by omega]
theorem popc_full {n : Nat} (h : n ≤ 64) : popc (2 ^ n - 1) = n := by
  rw [popc_at (k := n) (by have := Nat.two_pow_pos n; omega) h, bcTo_full (Nat.le_refl _)]
/-- A set that has as many bits as there are places is the full one. -/
theorem bcTo_all {a : Nat} : ∀ {k : Nat}, bcTo a k = k → ∀ i, i < k → a.testBit i = true
  | 0, _, i, h => by omega
  | k + 1, e, i, h => by
    have hb := bcTo_le a k
    unfold bcTo at e
    cases ht : a.testBit k with
    | false => rw [ht] at e; simp at e; omega
    | true =>
      rw [ht] at e
      rcases Nat.lt_or_ge i k with hi | hi
      · exact bcTo_all (by simpa using e) i hi
      · obtain rfl : i = k := by omega
        exact ht
theorem bcTo_half (a : Nat) : ∀ k, bcTo a (k + 1) = (a.testBit 0).toNat + bcTo (a / 2) k
  | 0 => by simp [bcTo]
  | k + 1 => by
    rw [bcTo, bcTo_half a k, bcTo, Nat.testBit_succ]
    omega
theorem popc_half {a : Nat} (h : a < 2 ^ 40) : popc a = a % 2 + popc (a / 2) := by
  have h2 : a / 2 < 2 ^ 40 := by omega
  have e1 : popc a = bcTo a (40 + 1) := popc_at (by omega) (by omega)
  rw [e1, popc_at h2 (by omega), bcTo_half, Nat.testBit_zero]
  rcases Nat.mod_two_eq_zero_or_one a with h | h <;> simp [h]
theorem low_half (a : Nat) : (a &&& (a - 1)) / 2 = if a % 2 = 1 then a / 2 else a / 2 &&& (a / 2 - 1) := by
  rw [Nat.and_div_two]
  split
  · rename_i h
    rw [show (a - 1) / 2 = a / 2 by omega, Nat.and_self]
  · rename_i h
    rw [show (a - 1) / 2 = a / 2 - 1 by omega]
theorem low_mod {a : Nat} (h : 0 < a) : (a &&& (a - 1)) % 2 = 0 := by
  rcases Nat.mod_two_eq_zero_or_one (a &&& (a - 1)) with e | e
  · exact e
  · have := Nat.and_mod_two_eq_one.1 e
    omega
/-- Without its least bit a set has one bit less. -/
theorem popc_low : ∀ (n a : Nat), a ≤ n → a < 2 ^ 40 → 0 < a → popc (a &&& (a - 1)) + 1 = popc a
  | 0, a, h, _, h0 => by omega
  | n + 1, a, h, hb, h0 => by
    have hl : a &&& (a - 1) ≤ a := Nat.and_le_left
    rw [popc_half (a := a) hb, popc_half (a := a &&& (a - 1)) (by omega), low_mod h0, low_half]
    by_cases e : a % 2 = 1
    · rw [if_pos e, e]; omega
    · rw [if_neg e]
      have := popc_low n (a / 2) (by omega) (by omega) (by omega)
      omega
theorem low_lt {a : Nat} (h : 0 < a) : a &&& (a - 1) < a := Nat.lt_of_le_of_lt (Nat.and_le_right) (by omega)

set_option maxHeartbeats 800000 in
theorem bits_any (a : Nat) (ha : a < 1099511627776) (w : World) :
    Calls Try.prog 104 #[.int .i64 a] w fun e w' => e = .returned (.int .i64 (popc a)) ∧ w = w' := by
  obtain ⟨r, hr⟩ : ∃ r, r = popc a := ⟨_, rfl⟩
  rw [← hr]
  have hrb : r ≤ 64 := by rw [hr]; exact popc_le64 a
  have HR := Lib.hid hr
  clear hr
  go_enter Try.func104, Try.ntmps104
  go_wp2_with fail
  go_loop [0, 3] (fun x n => ∃ (y k : Nat), x = .int .i64 y ∧ n = .int .i64 k ∧ y < 1099511627776 ∧ k ≤ r ∧ Hid (k + popc y = r)) (fun x _ => (intOf x).toNat)
  case atStart => exact ⟨a, 0, rfl, rfl, ha, by omega, Lib.hid (by rw [HR.out]; omega)⟩
  case round =>
    obtain ⟨y, k, rfl, rfl, hy, hk, HS⟩ := hrel
    by_cases h0 : 0 < y
    · have hne : ((y : Int) != 0) = true := by simp; omega
      have hlow := popc_low y y (Nat.le_refl _) (by simpa using hy) h0
      have hlt := low_lt h0
      have hstep : (k + 1) + popc (y &&& (y - 1)) = r := by have := HS.out; omega
      have hk1 : k + 1 ≤ r := by omega
      have e1 : (y : Int) - 1 = ((y - 1 : Nat) : Int) := by omega
      have e2 : bits .and .i64 (y : Int) ((y - 1 : Nat) : Int) = ((y &&& (y - 1) : Nat) : Int) := and_nat _ _ (by omega) (by omega)
      have HN := Lib.hid hstep
      rw [← e1] at e2
      obtain ⟨z, hz⟩ : ∃ z, z = y &&& (y - 1) := ⟨_, rfl⟩
      rw [← hz] at e2 hlt HN
      clear hlow HS hstep hz e1
      go_wp2_with fail
      go_round
      case rel => exact ⟨z, k + 1, rfl, by go_num, by omega, hk1, HN⟩
      case measure => simp [intOf]; omega
    · obtain rfl : y = 0 := by omega
      have e : k = r := by have := HS.out; rw [popc_zero] at this; exact this
      subst e
      clear HS HR
      go_wp2_with fail
      go_ret
      exact ⟨rfl, rfl⟩

set_option maxHeartbeats 800000 in
theorem l3Bits_any (a : Nat) (ha : a < 1099511627776) (w : World) :
    Calls Try.prog 106 #[.int .i64 a] w fun e w' => e = .returned (.int .i64 (popc a)) ∧ w = w' := by
  obtain ⟨r, hr⟩ : ∃ r, r = popc a := ⟨_, rfl⟩
  rw [← hr]
  have hrb : r ≤ 64 := by rw [hr]; exact popc_le64 a
  have HR := Lib.hid hr
  clear hr
  go_enter Try.func106, Try.ntmps106
  go_wp2_with fail
  go_loop [3, 4] (fun n x => ∃ (y k : Nat), x = .int .i64 y ∧ n = .int .i64 k ∧ y < 1099511627776 ∧ k ≤ r ∧ Hid (k + popc y = r)) (fun _ x => (intOf x).toNat)
  case atStart => exact ⟨a, 0, rfl, rfl, ha, by omega, Lib.hid (by rw [HR.out]; omega)⟩
  case round =>
    obtain ⟨y, k, rfl, rfl, hy, hk, HS⟩ := hrel
    by_cases h0 : 0 < y
    · have hh := popc_half (a := y) (by simpa using hy)
      have hstep : (k + y % 2) + popc (y / 2) = r := by have := HS.out; omega
      have hk1 : k + y % 2 ≤ r := by omega
      have e2 : bits .and .i64 (y : Int) 1 = ((y % 2 : Nat) : Int) := bit_and _ (by omega)
      have e3 : (y : Int) / 2 ^ 1 = ((y / 2 : Nat) : Int) := by simp
      have e4 : (y : Int) / 2 = ((y / 2 : Nat) : Int) := by simp
      have HN := Lib.hid hstep
      have hlt : y / 2 < y := by omega
      obtain ⟨b, hb⟩ : ∃ b, b = y % 2 := ⟨_, rfl⟩
      obtain ⟨z, hz⟩ : ∃ z, z = y / 2 := ⟨_, rfl⟩
      rw [← hb] at e2 HN hk1
      rw [← hz] at e3 e4 HN hlt
      clear hh HS hstep hb hz
      go_wp2_with fail
      go_round
      case rel => exact ⟨z, k + b, rfl, by go_num, by omega, hk1, HN⟩
      case measure => simp [intOf]; omega
    · obtain rfl : y = 0 := by omega
      have e : k = r := by have := HS.out; rw [popc_zero] at this; exact this
      subst e
      clear HS HR
      go_wp2_with fail
      go_ret
      exact ⟨rfl, rfl⟩
end Go.Proofs.Ytokpgbpdmfibjaa
