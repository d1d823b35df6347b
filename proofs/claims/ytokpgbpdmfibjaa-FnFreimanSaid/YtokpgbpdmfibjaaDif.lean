/-
Elements of sums and of negatives, plain; contract of the program's difference; IsIndependent of both sides. Conditions: lengths at most 2000000.
-/
import Derived.Test.YtokpgbpdmfibjaaAlg
import Derived.Test.YtokpgbpdmfibjaaCon
import Derived.Deep.RegionHeld3
namespace Go.Proofs.Ytokpgbpdmfibjaa
open Go.RowKit Go.ChangeShapes
set_option linter.unusedVariables false

theorem and_eq0 (a b : Nat) : ((a &&& b) == 0) = true ↔ ∀ i, a.testBit i = true → b.testBit i = true → False := by
  rw [beq_iff_eq]
  constructor
  · intro h i h1 h2
    have : (a &&& b).testBit i = true := by rw [Nat.testBit_and, h1, h2]; rfl
    rw [h] at this
    simp at this
  · intro h
    apply Nat.eq_of_testBit_eq
    intro i
    rw [Nat.testBit_and, Nat.zero_testBit]
    cases h1 : a.testBit i with
    | false => rfl
    | true =>
      cases h2 : b.testBit i with
      | false => rfl
      | true => exact (h i h1 h2).elim
theorem sumS_iff {os : List Int} {a b : Nat} (ha : a < 18446744073709551616) (hb : b < 18446744073709551616) (i : Nat) :
    (sumS os a b).testBit i = true ↔ ∃ p q : Nat, a.testBit p = true ∧ b.testBit q = true ∧ gadd os p q = i := by
  rw [sumS_bit]
  simp only [List.any_eq_true, mems_mem ha, mems_mem hb, beq_iff_eq]
  constructor
  · rintro ⟨x, ⟨p, rfl, hp⟩, y, ⟨q, rfl, hq⟩, e⟩
    exact ⟨p, q, hp, hq, by simpa using e⟩
  · rintro ⟨p, q, hp, hq, e⟩
    exact ⟨p, ⟨p, rfl, hp⟩, q, ⟨q, rfl, hq⟩, by simpa using e⟩
theorem orL_iff {f : Nat → Nat} {a : Nat} (ha : a < 18446744073709551616) (i : Nat) :
    (orL f (mems a)).testBit i = true ↔ ∃ p : Nat, a.testBit p = true ∧ f p = i := by
  rw [orL_bit]
  simp only [List.any_eq_true, mems_mem ha, beq_iff_eq]
  constructor
  · rintro ⟨x, ⟨p, rfl, hp⟩, e⟩
    exact ⟨p, hp, by simpa using e⟩
  · rintro ⟨p, hp, e⟩
    exact ⟨p, ⟨p, rfl, hp⟩, by simpa using e⟩
theorem bit_lt {a n i : Nat} (ha : a < 2 ^ n) (hi : a.testBit i = true) : i < n := by
  apply Nat.lt_of_not_le
  intro hn
  rw [Nat.testBit_lt_two_pow (Nat.lt_of_lt_of_le ha (Nat.pow_le_pow_right (by decide) hn))] at hi
  cases hi
/-- The set of differences. -/
def difS (os : List Int) (a b : Nat) : Nat := sumS os a (orL (gneg os) (mems b))
theorem opp_lt {os : List Int} (h : grpB os = true) (a : Nat) : orL (gneg os) (mems a) < 16777216 := by
  simpa using orL_lt (fun y => gneg_lt24 h y) (mems a)
theorem difS_lt {os : List Int} (h : grpB os = true) (a b : Nat) : difS os a b < 16777216 := by
  unfold difS; simpa using sumS_lt h _ _
theorem difS_iff {os : List Int} (h : grpB os = true) {a b : Nat} (ha : a < 18446744073709551616) (hb : b < 18446744073709551616) (i : Nat) :
    (difS os a b).testBit i = true ↔ ∃ p q : Nat, a.testBit p = true ∧ b.testBit q = true ∧ gadd os p (gneg os q) = i := by
  have hl := opp_lt h b
  unfold difS
  rw [sumS_iff ha (by omega)]
  constructor
  · rintro ⟨p, q, hp, hq, e⟩
    obtain ⟨s, hs, rfl⟩ := (orL_iff hb q).1 hq
    exact ⟨p, s, hp, hs, e⟩
  · rintro ⟨p, q, hp, hq, e⟩
    exact ⟨p, gneg os q, hp, (orL_iff hb _).2 ⟨q, hq, rfl⟩, e⟩


theorem and_zero (a b : Nat) (ha : a < 9223372036854775808) (hb : b < 9223372036854775808) : (bits .and .i64 (a : Int) (b : Int) == 0) = ((a &&& b) == 0) := by
  rw [and_nat a b ha hb]; exact nat_beq (a &&& b) 0
end Go.Proofs.Ytokpgbpdmfibjaa
