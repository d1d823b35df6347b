/-
Plain facts of bits: shifts, the last bit, single bits, the list of a number's bits. Conditions: numbers below 2^63.
-/
import Derived.Test.YtokpgbpdmfibjaaApp
import Derived.Laws.BitsLemmas
namespace Go.Proofs.Ytokpgbpdmfibjaa
open Go.RowKit Go.ChangeShapes

theorem wraps_i64 (n : Int) (h0 : 0 ≤ n) (h1 : n < 2 ^ 63) : IntKind.i64.wrap n = n := by rw [IntKind.wrap_i64]; omega
theorem and_nat (a b : Nat) (ha : a < 9223372036854775808) (hb : b < 9223372036854775808) : bits .and .i64 (a : Int) (b : Int) = ((a &&& b : Nat) : Int) :=
  (bits_nat .i64 63 (by decide) wraps_i64 a b ha hb).1
theorem or_nat (a b : Nat) (ha : a < 9223372036854775808) (hb : b < 9223372036854775808) : bits .or .i64 (a : Int) (b : Int) = ((a ||| b : Nat) : Int) :=
  (bits_nat .i64 63 (by decide) wraps_i64 a b ha hb).2
theorem shr_nat (a k : Nat) : (a : Int) / 2 ^ k = ((a / 2 ^ k : Nat) : Int) := by
  rw [Int.natCast_ediv, Int.natCast_pow]; rfl
theorem bit_and (n : Nat) (h : n < 9223372036854775808) : bits .and .i64 (n : Int) 1 = ((n % 2 : Nat) : Int) := by
  have := and_nat n 1 h (by omega)
  rw [Nat.and_one_is_mod] at this
  exact this
theorem div_lt63 {a k : Nat} (ha : a < 9223372036854775808) : a / 2 ^ k < 9223372036854775808 := Nat.lt_of_le_of_lt (Nat.div_le_self _ _) ha
theorem bit_at (a k : Nat) (ha : a < 9223372036854775808) : bits .and .i64 ((a : Int) / 2 ^ k) 1 = if a.testBit k = true then 1 else 0 := by
  rw [shr_nat, bit_and _ (div_lt63 ha), Nat.testBit_eq_decide_div_mod_eq]
  rcases Nat.mod_two_eq_zero_or_one (a / 2 ^ k) with h | h <;> simp [h]
theorem bit_is (a k : Nat) (ha : a < 9223372036854775808) : (bits .and .i64 ((a : Int) / 2 ^ k) 1 == 1) = a.testBit k := by
  rw [bit_at a k ha]; cases a.testBit k <;> rfl
theorem last_is (a : Nat) (ha : a < 9223372036854775808) : (bits .and .i64 (a : Int) 1 == 1) = a.testBit 0 := by
  have := bit_is a 0 ha
  simpa using this
theorem shr_ne (a k : Nat) : (((a : Int) / 2 ^ k) != 0) = decide (2 ^ k ≤ a) := by
  rw [shr_nat]
  by_cases h : 2 ^ k ≤ a
  · have : 0 < a / 2 ^ k := Nat.div_pos h (Nat.two_pow_pos k)
    rw [decide_eq_true h]
    generalize a / 2 ^ k = q at *
    simp only [bne_iff_ne]
    omega
  · have : a / 2 ^ k = 0 := Nat.div_eq_of_lt (by omega)
    simp [h, this]
theorem pow40 {k : Nat} (h : k ≤ 40) : 2 ^ k ≤ 1099511627776 := by
  have := Nat.pow_le_pow_right (n := 2) (by decide) h
  simpa using this
theorem lt40_of {a k : Nat} (ha : a < 1099511627776) (h : 2 ^ k ≤ a) : k < 40 := by
  apply Nat.lt_of_not_le
  intro hk
  have := Nat.pow_le_pow_right (n := 2) (by decide) hk
  have h2 : (2 : Nat) ^ 40 = 1099511627776 := by decide
  omega

/-- The bits below k. -/
def memsTo (a : Nat) : Nat → List Int
  | 0 => []
  | k + 1 => if a.testBit k = true then memsTo a k ++ [(k : Int)] else memsTo a k
/-- The bits of a set. -/
def mems (a : Nat) : List Int := memsTo a 64
theorem memsTo_yes {a k : Nat} (h : a.testBit k = true) : memsTo a (k + 1) = memsTo a k ++ [(k : Int)] := by simp [memsTo, h]
theorem memsTo_no {a k : Nat} (h : a.testBit k = false) : memsTo a (k + 1) = memsTo a k := by simp [memsTo, h]
theorem memsTo_end {a k : Nat} (h : a < 2 ^ k) : ∀ m, memsTo a (k + m) = memsTo a k
  | 0 => rfl
  | m + 1 => by
    have ht : a.testBit (k + m) = false := Nat.testBit_lt_two_pow (Nat.lt_of_lt_of_le h (Nat.pow_le_pow_right (by decide) (Nat.le_add_right _ _)))
    rw [← Nat.add_assoc, memsTo_no ht, memsTo_end h m]
theorem mems_at {a k : Nat} (h : a < 2 ^ k) (hk : k ≤ 64) : mems a = memsTo a k := by
  have := memsTo_end h (64 - k)
  rw [Nat.add_sub_cancel' hk] at this
  exact this
theorem memsTo_len (a : Nat) : ∀ k, (memsTo a k).length ≤ k
  | 0 => by simp [memsTo]
  | k + 1 => by
    have := memsTo_len a k
    unfold memsTo
    split <;> simp <;> omega
theorem memsTo_mem {a : Nat} : ∀ {k : Nat} {x : Int}, x ∈ memsTo a k ↔ ∃ i : Nat, x = i ∧ i < k ∧ a.testBit i = true
  | 0, x => by simp [memsTo]
  | k + 1, x => by
    unfold memsTo
    split
    · rename_i ht
      simp only [List.mem_append, List.mem_singleton, memsTo_mem]
      constructor
      · rintro (⟨i, rfl, hi, hb⟩ | rfl)
        · exact ⟨i, rfl, by omega, hb⟩
        · exact ⟨k, rfl, by omega, ht⟩
      · rintro ⟨i, rfl, hi, hb⟩
        rcases Nat.lt_or_ge i k with h | h
        · exact .inl ⟨i, rfl, h, hb⟩
        · exact .inr (by have : i = k := by omega
                         rw [this])
    · rename_i ht
      rw [memsTo_mem]
      constructor
      · rintro ⟨i, rfl, hi, hb⟩
        exact ⟨i, rfl, by omega, hb⟩
      · rintro ⟨i, rfl, hi, hb⟩
        refine ⟨i, rfl, ?_, hb⟩
        rcases Nat.lt_or_ge i k with h | h
        · exact h
        · exact absurd (by have : i = k := by omega
                           rwa [← this]) ht
theorem mems_mem {a : Nat} (ha : a < 18446744073709551616) {x : Int} : x ∈ mems a ↔ ∃ i : Nat, x = i ∧ a.testBit i = true := by
  unfold mems
  rw [memsTo_mem]
  constructor
  · rintro ⟨i, h, _, hb⟩; exact ⟨i, h, hb⟩
  · rintro ⟨i, h, hb⟩
    refine ⟨i, h, ?_, hb⟩
    apply Nat.lt_of_not_le
    intro hi
    have := Nat.testBit_lt_two_pow (i := i) (Nat.lt_of_lt_of_le ha (by have := Nat.pow_le_pow_right (n := 2) (by decide) hi; simpa using this))
    rw [this] at hb
    cases hb
theorem mems_bd {a : Nat} {x : Int} (h : x ∈ mems a) : 0 ≤ x ∧ x < 64 := by
  obtain ⟨i, rfl, hi, _⟩ := memsTo_mem.1 h
  omega
theorem mems_len (a : Nat) : (mems a).length ≤ 64 := memsTo_len a 64
theorem testBit_div (a k : Nat) : (a / 2 ^ k).testBit 0 = a.testBit k := by
  simp [Nat.testBit_eq_decide_div_mod_eq]
theorem half_div (a k : Nat) : ((a / 2 ^ k : Nat) : Int) / 2 = ((a / 2 ^ (k + 1) : Nat) : Int) := by
  rw [Nat.pow_succ, ← Nat.div_div_eq_div_mul]; rfl
end Go.Proofs.Ytokpgbpdmfibjaa
