/-
Weights on lists of numbers modulo p whose low moments vanish; a product of factors x + y - c that vanishes on a grid has a coefficient that vanishes. Plain; condition: inverses modulo p.
-/
import Derived.Test.YtbidkjhgodkamaaNum
namespace Go.Proofs.Ytbidkjhgodkamaa
set_option linter.unusedVariables false

/-- The sum of weight times value. -/
def wS : List (Int × Int) → (Int → Int) → Int
  | [], _ => 0
  | (a, u) :: t, F => u * F a + wS t F
theorem wS_add (W : List (Int × Int)) (F G : Int → Int) : wS W (fun a => F a + G a) = wS W F + wS W G := by
  induction W with
  | nil => rfl
  | cons q t ih => obtain ⟨a, u⟩ := q; simp only [wS, ih, Int.mul_add]; omega
theorem wS_mul (W : List (Int × Int)) (k : Int) (F : Int → Int) : wS W (fun a => k * F a) = k * wS W F := by
  induction W with
  | nil => simp [wS]
  | cons q t ih => obtain ⟨a, u⟩ := q; simp only [wS, ih, Int.mul_add]; rw [Int.mul_left_comm]
theorem wS_congr {W : List (Int × Int)} {F G : Int → Int} (h : ∀ q ∈ W, F q.1 = G q.1) : wS W F = wS W G := by
  induction W with
  | nil => rfl
  | cons q t ih =>
    obtain ⟨a, u⟩ := q
    simp only [wS]
    rw [h (a, u) (List.mem_cons_self ..), ih (fun q hq => h q (List.mem_cons_of_mem _ hq))]
theorem wS_dvd {p : Int} {W : List (Int × Int)} {F : Int → Int} (h : ∀ q ∈ W, p ∣ F q.1) : p ∣ wS W F := by
  induction W with
  | nil => simp [wS]
  | cons q t ih =>
    obtain ⟨a, u⟩ := q
    exact Int.dvd_add (Int.dvd_mul_of_dvd_right (h (a, u) (List.mem_cons_self ..))) (ih (fun q hq => h q (List.mem_cons_of_mem _ hq)))
/-- New weights: the old ones times factors that depend on the place. -/
theorem wS_map (W : List (Int × Int)) (g : Int → Int) (F : Int → Int) : wS (W.map fun q => (q.1, q.2 * g q.1)) F = wS W (fun a => g a * F a) := by
  induction W with
  | nil => rfl
  | cons q t ih => obtain ⟨a, u⟩ := q; simp only [List.map_cons, wS, ih]; rw [Int.mul_assoc]
theorem map_fst (W : List (Int × Int)) (g : Int → Int) : (W.map fun q => (q.1, q.2 * g q.1)).map Prod.fst = W.map Prod.fst := by
  induction W with
  | nil => rfl
  | cons q t ih => simp only [List.map_cons, ih]

/-- Weights on different numbers whose moments below the last vanish, the last is 1. -/
theorem weights {p : Int} (inv : Int → Int) (hinv : ∀ x, ¬ p ∣ x → p ∣ x * inv x - 1) : ∀ (A : List Int) (a : Int), (a :: A).Pairwise (fun x y => ¬ p ∣ y - x) →
    ∃ W : List (Int × Int), W.map Prod.fst = a :: A ∧ (∀ i, i < A.length → p ∣ wS W (fun x => x ^ i)) ∧ p ∣ wS W (fun x => x ^ A.length) - 1
  | [], a, _ => ⟨[(a, 1)], rfl, fun i h => by simp at h, by simp [wS]⟩
  | b :: A, a, hp => by
    obtain ⟨h1, h2⟩ := List.pairwise_cons.1 hp
    obtain ⟨W, hW, hlow, htop⟩ := weights inv hinv A b h2
    let g : Int → Int := fun x => inv (x - a)
    let W1 := W.map fun q => (q.1, q.2 * g q.1)
    let s := wS W1 (fun _ => 1)
    refine ⟨(a, -s) :: W1, by simp only [List.map_cons]; rw [map_fst, hW], ?_⟩
    have hrec : ∀ i, p ∣ wS ((a, -s) :: W1) (fun x => x ^ (i + 1)) - (a * wS ((a, -s) :: W1) (fun x => x ^ i) + wS W (fun x => x ^ i)) := by
      intro i
      have e1 : wS ((a, -s) :: W1) (fun x => x ^ (i + 1)) - (a * wS ((a, -s) :: W1) (fun x => x ^ i) + wS W (fun x => x ^ i)) = wS W (fun x => (g x * (x - a) - 1) * x ^ i) := by
        have e2 : wS W (fun x => (g x * (x - a) - 1) * x ^ i) = wS W (fun x => g x * x ^ (i + 1) + ((-a) * (g x * x ^ i) + (-1) * x ^ i)) := by
          apply wS_congr
          intro q _
          obtain ⟨y, hy⟩ : ∃ y, y = q.1 ^ i := ⟨_, rfl⟩
          obtain ⟨z, hz⟩ : ∃ z, z = g q.1 := ⟨_, rfl⟩
          rw [Int.pow_succ, ← hy, ← hz, Int.sub_mul, Int.mul_sub, Int.sub_mul, Int.neg_mul, Int.mul_comm y q.1, ← Int.mul_assoc, Int.mul_comm z a, Int.mul_assoc a z y]
          omega
        rw [e2, wS_add, wS_add, wS_mul, wS_mul]
        simp only [wS, W1]
        rw [wS_map, wS_map, Int.pow_succ]
        simp only [Int.mul_add, Int.neg_mul, Int.mul_neg, Int.one_mul]
        have e3 : s * (a ^ i * a) = a * (s * a ^ i) := by rw [Int.mul_comm (a ^ i) a, Int.mul_left_comm]
        omega
      rw [e1]
      apply wS_dvd
      intro q hq
      have hm : q.1 ∈ b :: A := by rw [← hW]; exact List.mem_map_of_mem hq
      have hn := hinv (q.1 - a) (h1 _ hm)
      rw [Int.mul_comm] at hn
      exact Int.dvd_mul_of_dvd_left hn
    have h0 : wS ((a, -s) :: W1) (fun x => x ^ 0) = 0 := by
      simp only [wS, Int.pow_zero]
      have : wS W1 (fun _ => 1) = s := rfl
      omega
    have hl : ∀ i, i ≤ A.length → p ∣ wS ((a, -s) :: W1) (fun x => x ^ i) := by
      intro i
      induction i with
      | zero => intro _; rw [h0]; exact Int.dvd_zero p
      | succ i ih =>
        intro hi
        have k1 := hrec i
        have k2 : p ∣ a * wS ((a, -s) :: W1) (fun x => x ^ i) := Int.dvd_mul_of_dvd_right (ih (by omega))
        have k3 := hlow i (by omega)
        have := Int.dvd_add k1 (Int.dvd_add k2 k3)
        rwa [Int.sub_add_cancel] at this
    refine ⟨fun i hi => hl i (by simp at hi; omega), ?_⟩
    have k1 := hrec A.length
    have k2 : p ∣ a * wS ((a, -s) :: W1) (fun x => x ^ A.length) := Int.dvd_mul_of_dvd_right (hl A.length (Nat.le_refl _))
    have := Int.dvd_add k1 (Int.dvd_add k2 htop)
    simp only [List.length_cons]
    have e : ∀ x y z : Int, x - (y + z) + (y + (z - 1)) = x - 1 := fun x y z => by omega
    rwa [e] at this

/-- The ways from (i, j) to the corner (n, m) in k steps. -/
def cnt (n m : Nat) : Nat → Nat → Nat → Int
  | 0, i, j => if i = n ∧ j = m then 1 else 0
  | k + 1, i, j => cnt n m k (i + 1) j + cnt n m k i (j + 1)
theorem cnt_low {n m : Nat} : ∀ (k i j : Nat), i + j + k < n + m → cnt n m k i j = 0
  | 0, i, j, h => by simp [cnt]; omega
  | k + 1, i, j, h => by simp only [cnt]; rw [cnt_low k (i + 1) j (by omega), cnt_low k i (j + 1) (by omega)]; rfl
theorem cnt_out {n m : Nat} : ∀ (k i j : Nat), n < i → cnt n m k i j = 0
  | 0, i, j, h => by simp [cnt]; omega
  | k + 1, i, j, h => by simp only [cnt]; rw [cnt_out k (i + 1) j (by omega), cnt_out k i (j + 1) h]; rfl

/-- The product of the factors x - c. -/
def prodS : List Int → Int → Int
  | [], _ => 1
  | c :: C, x => (x - c) * prodS C x
theorem prodS_dvd {p x : Int} : ∀ {C : List Int}, (∃ c ∈ C, p ∣ x - c) → p ∣ prodS C x
  | c :: C, ⟨d, hd, h⟩ => by
    rcases List.mem_cons.1 hd with hd | hd
    · subst hd; exact Int.dvd_mul_of_dvd_left h
    · exact Int.dvd_mul_of_dvd_right (prodS_dvd ⟨d, hd, h⟩)

/-- The double sum over a grid. -/
def wD (U V : List (Int × Int)) (F : Int → Int → Int) : Int := wS U fun a => wS V fun b => F a b
theorem wD_add (U V : List (Int × Int)) (F G : Int → Int → Int) : wD U V (fun a b => F a b + G a b) = wD U V F + wD U V G := by
  unfold wD
  rw [← wS_add]
  exact wS_congr fun q _ => wS_add V _ _
theorem wD_mul (U V : List (Int × Int)) (k : Int) (F : Int → Int → Int) : wD U V (fun a b => k * F a b) = k * wD U V F := by
  unfold wD
  rw [← wS_mul]
  exact wS_congr fun q _ => wS_mul V _ _
theorem wD_congr {U V : List (Int × Int)} {F G : Int → Int → Int} (h : ∀ a b, F a b = G a b) : wD U V F = wD U V G := by
  have : F = G := by funext a b; exact h a b
  rw [this]
theorem wD_dvd {p : Int} {U V : List (Int × Int)} {F : Int → Int → Int} (h : ∀ q ∈ U, ∀ r ∈ V, p ∣ F q.1 r.1) : p ∣ wD U V F :=
  wS_dvd fun q hq => wS_dvd fun r hr => h q hq r hr
theorem wD_prod (U V : List (Int × Int)) (F G : Int → Int) : wD U V (fun a b => F a * G b) = wS U F * wS V G := by
  unfold wD
  rw [Int.mul_comm, ← wS_mul]
  exact wS_congr fun q _ => by rw [wS_mul, Int.mul_comm]

section
variable {p : Int} {U V : List (Int × Int)} {n m : Nat}
/-- The sums of the monomials times powers of x + y. -/
theorem mono_pow (hU : ∀ i, i < n → p ∣ wS U (fun x => x ^ i)) (hU1 : p ∣ wS U (fun x => x ^ n) - 1) (hV : ∀ i, i < m → p ∣ wS V (fun x => x ^ i)) (hV1 : p ∣ wS V (fun x => x ^ m) - 1) :
    ∀ (k i j : Nat), i + j + k ≤ n + m → p ∣ wD U V (fun a b => a ^ i * b ^ j * (a + b) ^ k) - cnt n m k i j
  | 0, i, j, h => by
    have e : wD U V (fun a b => a ^ i * b ^ j * (a + b) ^ 0) = wS U (fun x => x ^ i) * wS V (fun x => x ^ j) := by
      rw [← wD_prod]
      exact wD_congr fun a b => by rw [Int.pow_zero, Int.mul_one]
    rw [e]
    by_cases h1 : i < n
    · have : cnt n m 0 i j = 0 := by simp [cnt]; omega
      rw [this, Int.sub_zero]
      exact Int.dvd_mul_of_dvd_left (hU i h1)
    · by_cases h2 : j < m
      · have : cnt n m 0 i j = 0 := by simp [cnt]; omega
        rw [this, Int.sub_zero]
        exact Int.dvd_mul_of_dvd_right (hV j h2)
      · obtain rfl : i = n := by omega
        obtain rfl : j = m := by omega
        have : cnt i j 0 i j = 1 := by simp [cnt]
        rw [this]
        have e2 : ∀ x y : Int, x * y - 1 = (x - 1) * y + (y - 1) := fun x y => by rw [Int.sub_mul, Int.one_mul]; omega
        rw [e2]
        exact Int.dvd_add (Int.dvd_mul_of_dvd_left hU1) hV1
  | k + 1, i, j, h => by
    have e : wD U V (fun a b => a ^ i * b ^ j * (a + b) ^ (k + 1)) = wD U V (fun a b => a ^ (i + 1) * b ^ j * (a + b) ^ k) + wD U V (fun a b => a ^ i * b ^ (j + 1) * (a + b) ^ k) := by
      rw [← wD_add]
      exact wD_congr fun a b => by
        rw [Int.pow_succ, Int.pow_succ, Int.pow_succ, Int.mul_comm ((a + b) ^ k), ← Int.mul_assoc, Int.mul_add, Int.add_mul, Int.mul_right_comm (a ^ i) (b ^ j) a, Int.mul_assoc (a ^ i) (b ^ j) b]
    rw [e]
    simp only [cnt]
    have k1 := mono_pow hU hU1 hV hV1 k (i + 1) j (by omega)
    have k2 := mono_pow hU hU1 hV hV1 k i (j + 1) (by omega)
    have e2 : ∀ x y z t : Int, x + y - (z + t) = (x - z) + (y - t) := fun x y z t => by omega
    rw [e2]
    exact Int.dvd_add k1 k2
/-- The same with a product of factors x + y - c. -/
theorem mono_prod (hU : ∀ i, i < n → p ∣ wS U (fun x => x ^ i)) (hU1 : p ∣ wS U (fun x => x ^ n) - 1) (hV : ∀ i, i < m → p ∣ wS V (fun x => x ^ i)) (hV1 : p ∣ wS V (fun x => x ^ m) - 1) (i j : Nat) :
    ∀ (C : List Int) (k : Nat), i + j + k + C.length ≤ n + m → p ∣ wD U V (fun a b => a ^ i * b ^ j * (a + b) ^ k * prodS C (a + b)) - cnt n m (k + C.length) i j
  | [], k, h => by
    have e : wD U V (fun a b => a ^ i * b ^ j * (a + b) ^ k * prodS [] (a + b)) = wD U V (fun a b => a ^ i * b ^ j * (a + b) ^ k) := wD_congr fun a b => by simp [prodS]
    rw [e]
    exact mono_pow hU hU1 hV hV1 k i j (by simpa using h)
  | c :: C, k, h => by
    simp only [List.length_cons] at h ⊢
    have e : wD U V (fun a b => a ^ i * b ^ j * (a + b) ^ k * prodS (c :: C) (a + b)) = wD U V (fun a b => a ^ i * b ^ j * (a + b) ^ (k + 1) * prodS C (a + b)) + (-c) * wD U V (fun a b => a ^ i * b ^ j * (a + b) ^ k * prodS C (a + b)) := by
      rw [← wD_mul, ← wD_add]
      exact wD_congr fun a b => by
        obtain ⟨x, hx⟩ : ∃ x, x = a ^ i * b ^ j * (a + b) ^ k := ⟨_, rfl⟩
        have hx2 : a ^ i * b ^ j * (a + b) ^ (k + 1) = x * (a + b) := by rw [Int.pow_succ, hx, ← Int.mul_assoc]
        rw [hx2, ← hx]
        simp only [prodS]
        obtain ⟨y, hy⟩ : ∃ y, y = prodS C (a + b) := ⟨_, rfl⟩
        rw [← hy, Int.sub_mul, Int.mul_sub, Int.neg_mul, Int.mul_assoc, Int.mul_left_comm c x y]
        omega
    rw [e]
    have k1 := mono_prod hU hU1 hV hV1 i j C (k + 1) (by omega)
    have k2 := mono_prod hU hU1 hV hV1 i j C k (by omega)
    rw [cnt_low (k + C.length) i j (by omega), Int.sub_zero] at k2
    have k3 : p ∣ (-c) * wD U V (fun a b => a ^ i * b ^ j * (a + b) ^ k * prodS C (a + b)) := Int.dvd_mul_of_dvd_right k2
    have e2 : ∀ x y z : Int, x + y - z = (x - z) + y := fun x y z => by omega
    rw [e2, show k + (C.length + 1) = k + 1 + C.length by omega]
    exact Int.dvd_add k1 k3
end
/-- If every sum of a pair lies in C, then the number of ways to the corner vanishes. -/
theorem grid_sum {p : Int} (inv : Int → Int) (hinv : ∀ x, ¬ p ∣ x → p ∣ x * inv x - 1) {A B C : List Int} {n m : Nat} (hA : A.length = n + 1) (hB : B.length = m + 1) (hC : C.length = n + m)
    (pA : A.Pairwise (fun x y => ¬ p ∣ y - x)) (pB : B.Pairwise (fun x y => ¬ p ∣ y - x)) (h : ∀ a ∈ A, ∀ b ∈ B, ∃ c ∈ C, p ∣ a + b - c) : p ∣ cnt n m (n + m) 0 0 := by
  obtain ⟨a, A, rfl⟩ : ∃ a t, A = a :: t := by cases A with | nil => simp at hA | cons a t => exact ⟨a, t, rfl⟩
  obtain ⟨b, B, rfl⟩ : ∃ a t, B = a :: t := by cases B with | nil => simp at hB | cons a t => exact ⟨a, t, rfl⟩
  obtain ⟨U, hU0, hU, hU1⟩ := weights inv hinv A a pA
  obtain ⟨V, hV0, hV, hV1⟩ := weights inv hinv B b pB
  simp only [List.length_cons, Nat.add_right_cancel_iff] at hA hB
  rw [hA] at hU hU1
  rw [hB] at hV hV1
  have k1 := mono_prod hU hU1 hV hV1 0 0 C 0 (by omega)
  have k2 : p ∣ wD U V (fun a b => a ^ 0 * b ^ 0 * (a + b) ^ 0 * prodS C (a + b)) := wD_dvd fun q hq r hr => by
    refine Int.dvd_mul_of_dvd_right (prodS_dvd (h q.1 ?_ r.1 ?_))
    · rw [← hU0]; exact List.mem_map_of_mem hq
    · rw [← hV0]; exact List.mem_map_of_mem hr
  have := Int.dvd_sub k2 k1
  rw [Int.sub_sub_self, hC, Nat.zero_add] at this
  exact this
/-- If every sum of a pair of different numbers lies in C, then a difference of two such numbers vanishes. -/
theorem grid_diff {p : Int} (inv : Int → Int) (hinv : ∀ x, ¬ p ∣ x → p ∣ x * inv x - 1) {A B C : List Int} {n m : Nat} (hA : A.length = n + 1) (hB : B.length = m + 1) (hC : C.length + 1 = n + m)
    (pA : A.Pairwise (fun x y => ¬ p ∣ y - x)) (pB : B.Pairwise (fun x y => ¬ p ∣ y - x)) (h : ∀ a ∈ A, ∀ b ∈ B, p ∣ a - b ∨ ∃ c ∈ C, p ∣ a + b - c) : p ∣ cnt n m C.length 1 0 - cnt n m C.length 0 1 := by
  obtain ⟨a, A, rfl⟩ : ∃ a t, A = a :: t := by cases A with | nil => simp at hA | cons a t => exact ⟨a, t, rfl⟩
  obtain ⟨b, B, rfl⟩ : ∃ a t, B = a :: t := by cases B with | nil => simp at hB | cons a t => exact ⟨a, t, rfl⟩
  obtain ⟨U, hU0, hU, hU1⟩ := weights inv hinv A a pA
  obtain ⟨V, hV0, hV, hV1⟩ := weights inv hinv B b pB
  simp only [List.length_cons, Nat.add_right_cancel_iff] at hA hB
  rw [hA] at hU hU1
  rw [hB] at hV hV1
  have k1 := mono_prod hU hU1 hV hV1 1 0 C 0 (by omega)
  have k3 := mono_prod hU hU1 hV hV1 0 1 C 0 (by omega)
  have k2 : p ∣ wD U V (fun a b => a ^ 1 * b ^ 0 * (a + b) ^ 0 * prodS C (a + b)) - wD U V (fun a b => a ^ 0 * b ^ 1 * (a + b) ^ 0 * prodS C (a + b)) := by
    have e : wD U V (fun a b => a ^ 1 * b ^ 0 * (a + b) ^ 0 * prodS C (a + b)) - wD U V (fun a b => a ^ 0 * b ^ 1 * (a + b) ^ 0 * prodS C (a + b)) = wD U V (fun a b => (a - b) * prodS C (a + b)) := by
      have e1 : ∀ x y : Int, x - y = x + (-1) * y := fun x y => by omega
      rw [e1, ← wD_mul, ← wD_add]
      exact wD_congr fun a b => by
        simp only [Int.pow_zero, Int.mul_one, Int.one_mul, Int.pow_one, Int.sub_mul]
        omega
    rw [e]
    exact wD_dvd fun q hq r hr => by
      have hq' : q.1 ∈ a :: A := by rw [← hU0]; exact List.mem_map_of_mem hq
      have hr' : r.1 ∈ b :: B := by rw [← hV0]; exact List.mem_map_of_mem hr
      rcases h q.1 hq' r.1 hr' with h1 | h1
      · exact Int.dvd_mul_of_dvd_left h1
      · exact Int.dvd_mul_of_dvd_right (prodS_dvd h1)
  have := Int.dvd_sub k2 (Int.dvd_sub k1 k3)
  have e : ∀ x y z t : Int, x - y - (x - z - (y - t)) = z - t := fun x y z t => by omega
  rw [e, Nat.zero_add] at this
  exact this
end Go.Proofs.Ytbidkjhgodkamaa
