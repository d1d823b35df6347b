/-
Plain laws of the addition in a group: associative, with a zero, with negatives, cancelling. Conditions: orders from 2 to 24, elements below the order.
-/
import Derived.Test.YtokpgbpdmfibjaaSum
namespace Go.Proofs.Ytokpgbpdmfibjaa
open Go.RowKit Go.ChangeShapes

/-- The order of a group as a natural number. -/
def gn (os : List Int) : Nat := (gord os).toNat
theorem gn_nil : gn [] = 1 := rfl
theorem ordsIn_cons {o : Int} {os : List Int} (h : ordsIn (o :: os) = true) : (∃ n : Nat, o = (n : Int) ∧ 2 ≤ n ∧ n ≤ 24) ∧ ordsIn os = true := by
  have h' : inB o 2 24 = true ∧ ordsIn os = true := by simpa [ordsIn] using h
  obtain ⟨h1, h2⟩ := inB_true.1 h'.1
  obtain ⟨n, rfl⟩ := Int.eq_ofNat_of_zero_le (show 0 ≤ o by omega)
  exact ⟨⟨n, rfl, by omega, by omega⟩, h'.2⟩
theorem gord_pos : ∀ {os : List Int} (_ : ordsIn os = true), 0 < gord os
  | [], _ => by simp [gord]
  | o :: os, h => by
    obtain ⟨⟨n, rfl, h2, _⟩, h'⟩ := ordsIn_cons h
    have := gord_pos h'
    simp only [gord]
    exact Int.mul_pos (by omega) this
theorem gn_cons {n : Nat} {os : List Int} (h : ordsIn os = true) : gn ((n : Int) :: os) = n * gn os := by
  have := gord_pos h
  obtain ⟨m, hm⟩ := Int.eq_ofNat_of_zero_le (show 0 ≤ gord os by omega)
  unfold gn
  simp only [gord, hm]
  rw [← Int.natCast_mul]
  rfl
theorem gadd_lt' {os : List Int} (h : ordsIn os = true) (x y : Nat) : gadd os x y < gn os := by
  have := gadd_lt h x y
  unfold gn; omega
theorem gneg_lt' {os : List Int} (h : ordsIn os = true) (x : Nat) : gneg os x < gn os := by
  have := gneg_lt h x
  unfold gn; omega
theorem dm_mod {n d q : Nat} (h : d < n) : (d + n * q) % n = d := by
  rw [Nat.add_mul_mod_self_left, Nat.mod_eq_of_lt h]
theorem dm_div {n d q : Nat} (h : d < n) : (d + n * q) / n = q := by
  rw [Nat.add_mul_div_left _ _ (by omega), Nat.div_eq_of_lt h, Nat.zero_add]
theorem gadd_assoc : ∀ {os : List Int} (_ : ordsIn os = true) (x y z : Nat), gadd os (gadd os x y) z = gadd os x (gadd os y z)
  | [], _, _, _, _ => rfl
  | o :: os, h, x, y, z => by
    obtain ⟨⟨n, rfl, h2, _⟩, h'⟩ := ordsIn_cons h
    have e1 : ∀ a b, (a % n + b % n) % n < n := fun a b => Nat.mod_lt _ (by omega)
    simp only [gadd, Int.toNat_natCast]
    rw [dm_mod (e1 x y), dm_div (e1 x y), dm_mod (e1 y z), dm_div (e1 y z), gadd_assoc h']
    congr 1
    simp only [Nat.mod_add_mod, Nat.add_mod_mod, Nat.add_assoc]
theorem gadd_zero : ∀ {os : List Int} (_ : ordsIn os = true) (x : Nat), x < gn os → gadd os x 0 = x
  | [], _, x, hx => by rw [gn_nil] at hx; simp [gadd]; omega
  | o :: os, h, x, hx => by
    obtain ⟨⟨n, rfl, h2, _⟩, h'⟩ := ordsIn_cons h
    rw [gn_cons h'] at hx
    simp only [gadd, Int.toNat_natCast, Nat.zero_mod, Nat.zero_div, Nat.add_zero, Nat.mod_mod]
    rw [gadd_zero h' _ ((Nat.div_lt_iff_lt_mul (by omega)).2 (by rw [Nat.mul_comm]; exact hx))]
    exact Nat.mod_add_div x n
theorem zero_gadd {os : List Int} (h : ordsIn os = true) (x : Nat) (hx : x < gn os) : gadd os 0 x = x := by
  rw [gadd_comm]; exact gadd_zero h x hx
theorem gadd_neg : ∀ {os : List Int} (_ : ordsIn os = true) (x : Nat), gadd os x (gneg os x) = 0
  | [], _, _ => rfl
  | o :: os, h, x => by
    obtain ⟨⟨n, rfl, h2, _⟩, h'⟩ := ordsIn_cons h
    have e1 : (n - x % n) % n < n := Nat.mod_lt _ (by omega)
    have e2 : x % n < n := Nat.mod_lt _ (by omega)
    simp only [gadd, gneg, Int.toNat_natCast]
    rw [dm_mod e1, dm_div e1, gadd_neg h', Nat.mul_zero, Nat.add_zero]
    rw [Nat.add_mod_mod, show x % n + (n - x % n) = n by omega, Nat.mod_self]
theorem gadd_neg' {os : List Int} (h : ordsIn os = true) (x : Nat) : gadd os (gneg os x) x = 0 := by
  rw [gadd_comm]; exact gadd_neg h x
/-- x + (y - x) = y. -/
theorem gadd_sub {os : List Int} (h : ordsIn os = true) (x y : Nat) (hy : y < gn os) : gadd os x (gadd os y (gneg os x)) = y := by
  rw [gadd_comm os y, ← gadd_assoc h, gadd_neg h, zero_gadd h y hy]
/-- (x + y) - x = y. -/
theorem gsub_add {os : List Int} (h : ordsIn os = true) (x y : Nat) (hy : y < gn os) : gadd os (gadd os x y) (gneg os x) = y := by
  rw [gadd_comm os x y, gadd_assoc h, gadd_neg h, gadd_zero h y hy]
theorem gadd_cancel {os : List Int} (h : ordsIn os = true) {x y z : Nat} (hy : y < gn os) (hz : z < gn os) (e : gadd os x y = gadd os x z) : y = z := by
  rw [← gsub_add h x y hy, e, gsub_add h x z hz]
theorem gneg_neg {os : List Int} (h : ordsIn os = true) (x : Nat) (hx : x < gn os) : gneg os (gneg os x) = x := by
  apply gadd_cancel h (x := gneg os x) (gneg_lt' h _) hx
  rw [gadd_neg h, gadd_neg' h]
theorem grp_gn {os : List Int} (h : grpB os = true) : ordsIn os = true ∧ 1 ≤ gn os ∧ gn os ≤ 24 ∧ (gn os : Int) = gord os ∧ setT os = 2 ^ gn os := by
  obtain ⟨g1, g2, g3, g4⟩ := grp_parts h
  refine ⟨g2, ?_, ?_, ?_, rfl⟩ <;> (unfold gn; omega)
/-- The elements of a set of a group lie below its order. -/
theorem mems_lt {os : List Int} {a : Nat} (ha : a < 2 ^ gn os) {x : Int} (hx : x ∈ mems a) : 0 ≤ x ∧ x.toNat < gn os ∧ a.testBit x.toNat = true := by
  obtain ⟨i, rfl, hi, hb⟩ := memsTo_mem.1 hx
  refine ⟨by omega, ?_, by simpa using hb⟩
  simp only [Int.toNat_natCast]
  apply Nat.lt_of_not_le
  intro hn
  rw [Nat.testBit_lt_two_pow (Nat.lt_of_lt_of_le ha (Nat.pow_le_pow_right (by decide) hn))] at hb
  cases hb
theorem mem_of_bit {a i : Nat} (hi : i < 64) (hb : a.testBit i = true) : (i : Int) ∈ mems a := memsTo_mem.2 ⟨i, rfl, hi, hb⟩
end Go.Proofs.Ytokpgbpdmfibjaa
