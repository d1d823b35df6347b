/-
Inverses and small multiples modulo a prime up to 23. Plain; no condition.
-/
import Derived.Test.YtokpgbpdmfibjaaNum
namespace Go.Proofs.Ytokpgbpdmfibjaa
open Go.RowKit Go.ChangeShapes
set_option linter.unusedVariables false

theorem prm_list {p : Int} (hp : prmB p = true) : ∃ q : Nat, q ∈ ([2, 3, 5, 7, 11, 13, 17, 19, 23] : List Nat) ∧ p = q := by
  have hp' : p ∈ ([2, 3, 5, 7, 11, 13, 17, 19, 23] : List Int) := by simpa [prmB] using hp
  simp only [List.mem_cons, List.not_mem_nil, or_false] at hp'
  rcases hp' with h | h | h | h | h | h | h | h | h <;> subst h
  · exact ⟨2, by decide, rfl⟩
  · exact ⟨3, by decide, rfl⟩
  · exact ⟨5, by decide, rfl⟩
  · exact ⟨7, by decide, rfl⟩
  · exact ⟨11, by decide, rfl⟩
  · exact ⟨13, by decide, rfl⟩
  · exact ⟨17, by decide, rfl⟩
  · exact ⟨19, by decide, rfl⟩
  · exact ⟨23, by decide, rfl⟩
theorem prm_inv1 {p : Int} (hp : prmB p = true) (x : Int) (hx : ¬ p ∣ x) : ∃ y, p ∣ x * y - 1 := by
  obtain ⟨q, hq, rfl⟩ := prm_list hp
  have key : ∀ q ∈ ([2, 3, 5, 7, 11, 13, 17, 19, 23] : List Nat), ∀ r, r < q → r ≠ 0 → ∃ y, y < q ∧ r * y % q = 1 := by decide +kernel
  have hq0 : 0 < q := by
    rcases Nat.eq_zero_or_pos q with h | h
    · subst h; simp at hq
    · exact h
  have h1 := Int.emod_nonneg x (show (q : Int) ≠ 0 by omega)
  have h2 := Int.emod_lt_of_pos x (show (0 : Int) < q by omega)
  have h3 : x % q ≠ 0 := fun h => hx (Int.dvd_of_emod_eq_zero h)
  obtain ⟨y, hy1, hy2⟩ := key q hq (x % q).toNat (by omega) (by omega)
  refine ⟨y, ?_⟩
  have h4 : ((((x % q).toNat * y % q : Nat) : Int)) = 1 := by rw [hy2]; rfl
  rw [Int.natCast_emod, Int.natCast_mul, show (((x % q).toNat : Nat) : Int) = x % q by omega] at h4
  have h5 : (x * y) % q = 1 := by rw [← h4]; simp [Int.mul_emod]
  apply Int.dvd_of_emod_eq_zero
  rw [Int.sub_emod, h5]
  have : 1 % (q : Int) = 1 := by
    apply Int.emod_eq_of_lt (by decide)
    rcases Nat.lt_or_ge 1 q with h | h
    · omega
    · have : q = 1 := by omega
      subst this; simp at hq
  rw [this]; simp
open Classical in
theorem prm_inv {p : Int} (hp : prmB p = true) : ∃ inv : Int → Int, ∀ x, ¬ p ∣ x → p ∣ x * inv x - 1 := by
  refine ⟨fun x => if h : ∃ y, p ∣ x * y - 1 then h.choose else 0, fun x hx => ?_⟩
  have h := prm_inv1 hp x hx
  simp only [dif_pos h]
  exact h.choose_spec
theorem dvd_mod_sub {p x : Int} : p ∣ x - x % p := by
  have := Int.mul_ediv_add_emod x p
  exact ⟨x / p, by omega⟩
theorem small_dvd {p x : Int} (h : p ∣ x) (h1 : -p < x) (h2 : x < p) : x = 0 := by
  obtain ⟨k, rfl⟩ := h
  rcases Int.lt_trichotomy k 0 with hk | hk | hk
  · have : p * k ≤ p * (-1) := Int.mul_le_mul_of_nonneg_left (by omega) (by omega)
    omega
  · subst hk; simp
  · have : p * 1 ≤ p * k := Int.mul_le_mul_of_nonneg_left (by omega) (by omega)
    omega
end Go.Proofs.Ytokpgbpdmfibjaa
