/-
Counting sets of Sidon, plain: by all numbers with some bits, and by a search with parts; they agree where parts of such sets are such sets. No condition.
-/
import Derived.Test.YtokpgbpdmfibjaaSid3
import Derived.Test.YtokpgbpdmfibjaaDif
namespace Go.Proofs.Ytokpgbpdmfibjaa
open Go.RowKit Go.ChangeShapes
set_option linter.unusedVariables false

theorem memsTo_lt {a : Nat} : ∀ {k : Nat}, (memsTo a k).Pairwise (· < ·)
  | 0 => by simp [memsTo]
  | k + 1 => by
    unfold memsTo
    split
    · rw [List.pairwise_append]
      refine ⟨memsTo_lt, by simp, ?_⟩
      intro x hx y hy
      obtain ⟨i, rfl, hi, _⟩ := memsTo_mem.1 hx
      simp at hy
      omega
    · exact memsTo_lt
theorem elt_lt {a i j : Nat} (hij : i < j) (hj : j < (mems a).length) : elt (mems a) i < elt (mems a) j := by
  have hl : (memsTo a 64).length = (mems a).length := rfl
  have h := (List.pairwise_iff_getElem.1 (memsTo_lt (a := a) (k := 64))) i j (by omega) hj hij
  have e1 := elt_at (show i < (mems a).length by omega) (fun x hx => mems_bd hx)
  have e2 := elt_at hj (fun x hx => mems_bd hx)
  have h2 : (mems a)[i] < (mems a)[j] := h
  rw [e1.1, e2.1] at h2
  omega
theorem elt_bit {a i : Nat} (hi : i < (mems a).length) : a.testBit (elt (mems a) i) = true := by
  have h := List.getElem_mem hi
  rw [(elt_at hi (fun x hx => mems_bd hx)).1] at h
  obtain ⟨p, hp, _, hb⟩ := memsTo_mem.1 h
  have : elt (mems a) i = p := by omega
  rw [this]; exact hb
theorem bit_elt {a p : Nat} (hp : p < 64) (hb : a.testBit p = true) : ∃ i, i < (mems a).length ∧ elt (mems a) i = p := by
  obtain ⟨i, hi, e⟩ := List.mem_iff_getElem.1 (mem_of_bit hp hb)
  refine ⟨i, hi, ?_⟩
  rw [(elt_at hi (fun x hx => mems_bd hx)).1] at e
  omega
/-- All sums of two elements are different. -/
def SidE (os : List Int) (a : Nat) : Prop := ∀ p q r s, a.testBit p = true → a.testBit q = true → a.testBit r = true → a.testBit s = true → p ≤ q → r ≤ s → gadd os p q = gadd os r s → p = r ∧ q = s
theorem sidE_iff {os : List Int} {a : Nat} (ha : a < 2 ^ 64) : SidP os (mems a) ↔ SidE os a := by
  have hb64 : ∀ p, a.testBit p = true → p < 64 := fun p hp => bit_lt ha hp
  constructor
  · intro H p q r s hp hq hr hs hpq hrs e
    obtain ⟨i, hi, rfl⟩ := bit_elt (hb64 p hp) hp
    obtain ⟨j, hj, rfl⟩ := bit_elt (hb64 q hq) hq
    obtain ⟨k, hk, rfl⟩ := bit_elt (hb64 r hr) hr
    obtain ⟨m, hm, rfl⟩ := bit_elt (hb64 s hs) hs
    have hij : i ≤ j := by
      rcases Nat.lt_or_ge j i with h | h
      · have := elt_lt h hi; omega
      · exact h
    have hkm : k ≤ m := by
      rcases Nat.lt_or_ge m k with h | h
      · have := elt_lt h hk; omega
      · exact h
    by_cases h1 : k < i ∨ (k = i ∧ m < j)
    · exact absurd e.symm (H i j hij hj k m ⟨hkm, hm, h1⟩)
    · by_cases h2 : i < k ∨ (i = k ∧ j < m)
      · exact absurd e (H k m hkm hm i j ⟨hij, hj, h2⟩)
      · obtain rfl : i = k := by omega
        obtain rfl : j = m := by omega
        exact ⟨rfl, rfl⟩
  · intro H i j hij hj k m hb e
    obtain ⟨b1, b2, b3⟩ := hb
    have hle : ∀ x y, x ≤ y → y < (mems a).length → elt (mems a) x ≤ elt (mems a) y := fun x y h hy => by
      rcases Nat.lt_or_ge x y with h' | h'
      · exact Nat.le_of_lt (elt_lt h' hy)
      · obtain rfl : x = y := by omega
        exact Nat.le_refl _
    obtain ⟨e1, e2⟩ := H _ _ _ _ (elt_bit (show k < (mems a).length by omega)) (elt_bit b2) (elt_bit (show i < (mems a).length by omega)) (elt_bit hj) (hle k m b1 b2) (hle i j hij hj) e
    rcases b3 with h | ⟨h1, h2⟩
    · have := elt_lt h (show i < (mems a).length by omega); omega
    · have := elt_lt h2 hj; omega
theorem sdB_true {os : List Int} {a : Nat} : sdB os a = true ↔ SidP os (mems a) := by
  unfold sdB
  exact @decide_eq_true_iff _ (Classical.propDecidable _)
/-- A part of a set of Sidon is one. -/
theorem sdB_part {os : List Int} {a b : Nat} (ha : a < 2 ^ 64) (hb : b < 2 ^ 64) (h : ∀ i, a.testBit i = true → b.testBit i = true) (hs : sdB os b = true) : sdB os a = true := by
  rw [sdB_true, sidE_iff hb] at hs
  rw [sdB_true, sidE_iff ha]
  intro p q r s hp hq hr hs' h1 h2 e
  exact hs p q r s (h p hp) (h q hq) (h r hr) (h s hs') h1 h2 e

/-- How many numbers below M have n bits and the property. -/
def cS (P : Nat → Bool) (n : Nat) : Nat → Nat := ns fun a => nat1 (decide (popc a = n) && P a)
/-- How many sets the search finds. -/
def lsF (P : Nat → Bool) (N : Nat) : Nat → Nat → Nat → Nat
  | 0, 0, _ => 1
  | 0, _ + 1, _ => 0
  | _ + 1, 0, _ => 1
  | d + 1, left + 1, a => (if P (a ||| 2 ^ (N - (d + 1))) = true then lsF P N d left (a ||| 2 ^ (N - (d + 1))) else 0) + lsF P N d (left + 1) a
theorem lsF_zero (P : Nat → Bool) (N d a : Nat) : lsF P N d 0 a = 1 := by cases d <;> rfl
theorem lsF_le (P : Nat → Bool) (N : Nat) : ∀ d left a, lsF P N d left a ≤ 2 ^ d
  | 0, 0, _ => by simp [lsF]
  | 0, _ + 1, _ => by simp [lsF]
  | d + 1, 0, _ => by simp [lsF]; exact Nat.two_pow_pos _
  | d + 1, left + 1, a => by
    unfold lsF
    have h1 := lsF_le P N d left (a ||| 2 ^ (N - (d + 1)))
    have h2 := lsF_le P N d (left + 1) a
    rw [Nat.pow_succ]
    split <;> omega
theorem ns_two (f : Nat → Nat) : ∀ M, ns f (2 * M) = ns (fun h => f (2 * h)) M + ns (fun h => f (2 * h + 1)) M
  | 0 => rfl
  | M + 1 => by
    rw [show 2 * (M + 1) = (2 * M + 1) + 1 by omega]
    simp only [ns]
    rw [ns_two f M]
    omega
theorem ns_zero {f : Nat → Nat} : ∀ {n : Nat}, (∀ i, i < n → f i = 0) → ns f n = 0
  | 0, _ => rfl
  | n + 1, h => by simp only [ns]; rw [ns_zero (fun i hi => h i (by omega)), h n (by omega)]
theorem ns_one {f : Nat → Nat} {n : Nat} (h0 : 0 < n) (h : ∀ i, 0 < i → i < n → f i = 0) : ns f n = f 0 := by
  induction n with
  | zero => omega
  | succ n ih =>
    simp only [ns]
    rcases Nat.eq_zero_or_pos n with e | e
    · subst e; simp [ns]
    · rw [ih e (fun i h1 h2 => h i h1 (by omega)), h n e (by omega)]; rfl
theorem popc_two {h : Nat} (hh : h < 2 ^ 39) : popc (2 * h) = popc h ∧ popc (2 * h + 1) = popc h + 1 := by
  constructor
  · rw [popc_half (by omega), show 2 * h % 2 = 0 by omega, show 2 * h / 2 = h by omega]; omega
  · rw [popc_half (by omega), show (2 * h + 1) % 2 = 1 by omega, show (2 * h + 1) / 2 = h by omega]; omega
theorem popc_zero_iff {h : Nat} (hh : h < 2 ^ 40) : popc h = 0 ↔ h = 0 := by
  constructor
  · intro e
    rcases Nat.eq_zero_or_pos h with h0 | h0
    · exact h0
    · have := popc_low h h (Nat.le_refl _) hh h0; omega
  · rintro rfl; exact popc_zero
/-- A set with more elements above has the old ones. -/
theorem above_bit {a x h : Nat} (ha : a < 2 ^ x) (i : Nat) (hi : a.testBit i = true) : (a + h * 2 ^ x).testBit i = true := by
  rw [Nat.add_comm, Nat.mul_comm, Nat.testBit_two_pow_mul_add h ha]
  have : i < x := bit_lt ha hi
  simp [this, hi]
theorem lsF_eq {P : Nat → Bool} {N : Nat} (hN : N ≤ 24) (hP : ∀ a b, a < 2 ^ 24 → b < 2 ^ 24 → (∀ i, a.testBit i = true → b.testBit i = true) → P b = true → P a = true) :
    ∀ d left a, d ≤ N → a < 2 ^ (N - d) → P a = true → ns (fun h => nat1 (decide (popc h = left) && P (a + h * 2 ^ (N - d)))) (2 ^ d) = lsF P N d left a
  | d, 0, a, hd, ha, hPa => by
    rw [lsF_zero, ns_one (Nat.two_pow_pos d)]
    · simp [popc_zero, hPa, nat1]
    · intro i h1 h2
      have h3 : (2 : Nat) ^ d ≤ 2 ^ 24 := Nat.pow_le_pow_right (by decide) (by omega)
      have : ¬ popc i = 0 := by rw [popc_zero_iff (by omega)]; omega
      simp [this, nat1]
  | 0, left + 1, a, hd, ha, hPa => by simp [ns, lsF, popc_zero, nat1]
  | d + 1, left + 1, a, hd, ha, hPa => by
    obtain ⟨x, hx⟩ : ∃ x, x = N - (d + 1) := ⟨_, rfl⟩
    have hx1 : N - d = x + 1 := by omega
    rw [Nat.pow_succ, Nat.mul_comm, ns_two]
    unfold lsF
    rw [← hx] at ha ⊢
    have hpd : (2 : Nat) ^ d ≤ 2 ^ 24 := Nat.pow_le_pow_right (by decide) (by omega)
    have e1 : ns (fun h => nat1 (decide (popc (2 * h) = left + 1) && P (a + 2 * h * 2 ^ x))) (2 ^ d) = lsF P N d (left + 1) a := by
      rw [← lsF_eq hN hP d (left + 1) a (by omega) (by rw [hx1]; exact Nat.lt_of_lt_of_le ha (Nat.pow_le_pow_right (by decide) (by omega))) hPa]
      apply ns_congr
      intro h hh
      rw [(popc_two (by omega)).1, hx1, Nat.pow_succ, show 2 * h * 2 ^ x = h * (2 ^ x * 2) by rw [Nat.mul_comm 2 h, Nat.mul_assoc, Nat.mul_comm 2]]
    have hor : a ||| 2 ^ x = a + 2 ^ x := Nat.or_two_pow_eq_add_of_lt ha
    have hb : a ||| 2 ^ x < 2 ^ (N - d) := by rw [hx1]; exact or_bit_lt ha
    have e2 : ns (fun h => nat1 (decide (popc (2 * h + 1) = left + 1) && P (a + (2 * h + 1) * 2 ^ x))) (2 ^ d) = if P (a ||| 2 ^ x) = true then lsF P N d left (a ||| 2 ^ x) else 0 := by
      have hs : ∀ h, a + (2 * h + 1) * 2 ^ x = (a ||| 2 ^ x) + h * 2 ^ (N - d) := fun h => by
        rw [hor, hx1, Nat.pow_succ, Nat.add_mul, Nat.one_mul, show 2 * h * 2 ^ x = h * (2 ^ x * 2) by rw [Nat.mul_comm 2 h, Nat.mul_assoc, Nat.mul_comm 2]]
        omega
      split
      · rename_i hPb
        rw [← lsF_eq hN hP d left (a ||| 2 ^ x) (by omega) hb hPb]
        apply ns_congr
        intro h hh
        rw [(popc_two (by omega)).2, hs h]
        congr 2
        exact decide_eq_decide.2 (by omega)
      · rename_i hPb
        apply ns_zero
        intro h hh
        rw [hs h]
        have hno : P ((a ||| 2 ^ x) + h * 2 ^ (N - d)) = false := by
          cases hc : P ((a ||| 2 ^ x) + h * 2 ^ (N - d)) with
          | false => rfl
          | true =>
            have hbig : (a ||| 2 ^ x) + h * 2 ^ (N - d) < 2 ^ 24 := by
              have h1 : (h + 1) * 2 ^ (N - d) ≤ 2 ^ d * 2 ^ (N - d) := Nat.mul_le_mul_right _ hh
              rw [← Nat.pow_add, show d + (N - d) = N by omega, Nat.add_mul, Nat.one_mul] at h1
              have h2 : (2 : Nat) ^ N ≤ 2 ^ 24 := Nat.pow_le_pow_right (by decide) hN
              omega
            have hb24 : a ||| 2 ^ x < 2 ^ 24 := Nat.lt_of_lt_of_le hb (Nat.pow_le_pow_right (by decide) (by omega))
            exact absurd (hP _ _ hb24 hbig (fun i hi => above_bit hb i hi) hc) hPb
        rw [hno]; simp [nat1]
    rw [e1, e2]
    omega
theorem cS_eq {P : Nat → Bool} {N : Nat} (hN : N ≤ 24) (hP : ∀ a b, a < 2 ^ 24 → b < 2 ^ 24 → (∀ i, a.testBit i = true → b.testBit i = true) → P b = true → P a = true) (h0 : P 0 = true) (n : Nat) : cS P n (2 ^ N) = lsF P N N n 0 := by
  rw [← lsF_eq hN hP N n 0 (Nat.le_refl _) (by simp) h0]
  unfold cS
  apply ns_congr
  intro h hh
  simp
end Go.Proofs.Ytokpgbpdmfibjaa
