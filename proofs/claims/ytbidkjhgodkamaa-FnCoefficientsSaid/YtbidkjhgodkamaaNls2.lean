/-
Sums modulo a prime up to 23: the bounds of Cauchy and Davenport and of Erdos and Heilbronn, for lists and for sets as bits. Plain; no condition.
-/
import Derived.Test.YtbidkjhgodkamaaNls
import Derived.Test.YtbidkjhgodkamaaCau
import Derived.Test.YtbidkjhgodkamaaCso
namespace Go.Proofs.Ytbidkjhgodkamaa
open Go.RowKit Go.ChangeShapes
set_option linter.unusedVariables false

theorem prm_list {p : Int} (hp : prmB p = true) : ∃ q : Nat, q ∈ ([2, 3, 5, 7, 11, 13, 17, 19, 23] : List Nat) ∧ p = q := by
  have hp' : p ∈ ([2, 3, 5, 7, 11, 13, 17, 19, 23] : List Int) := by simpa [prmB] using hp
  simp only [List.mem_cons, List.not_mem_nil, or_false] at hp'
  rcases hp' with h | h | h | h | h | h | h | h | h <;> subst h
  · exact ⟨2, by decide, rfl⟩
  · exact ⟨3, by decide, rfl⟩
  · exact ⟨5, by decide, rfl⟩
  · exact ⟨7, by decide, rfl⟩
  · exact ⟨11, by decide, rfl⟩
  · exact ⟨13, by decide, rfl⟩
  · exact ⟨17, by decide, rfl⟩
  · exact ⟨19, by decide, rfl⟩
  · exact ⟨23, by decide, rfl⟩
theorem prm_inv1 {p : Int} (hp : prmB p = true) (x : Int) (hx : ¬ p ∣ x) : ∃ y, p ∣ x * y - 1 := by
  obtain ⟨q, hq, rfl⟩ := prm_list hp
  have key : ∀ q ∈ ([2, 3, 5, 7, 11, 13, 17, 19, 23] : List Nat), ∀ r, r < q → r ≠ 0 → ∃ y, y < q ∧ r * y % q = 1 := by decide +kernel
  have hq0 : 0 < q := by
    rcases Nat.eq_zero_or_pos q with h | h
    · subst h; simp at hq
    · exact h
  have h1 := Int.emod_nonneg x (show (q : Int) ≠ 0 by omega)
  have h2 := Int.emod_lt_of_pos x (show (0 : Int) < q by omega)
  have h3 : x % q ≠ 0 := fun h => hx (Int.dvd_of_emod_eq_zero h)
  obtain ⟨y, hy1, hy2⟩ := key q hq (x % q).toNat (by omega) (by omega)
  refine ⟨y, ?_⟩
  have h4 : ((((x % q).toNat * y % q : Nat) : Int)) = 1 := by rw [hy2]; rfl
  rw [Int.natCast_emod, Int.natCast_mul, show (((x % q).toNat : Nat) : Int) = x % q by omega] at h4
  have h5 : (x * y) % q = 1 := by rw [← h4]; simp [Int.mul_emod]
  apply Int.dvd_of_emod_eq_zero
  rw [Int.sub_emod, h5]
  have : 1 % (q : Int) = 1 := by
    apply Int.emod_eq_of_lt (by decide)
    rcases Nat.lt_or_ge 1 q with h | h
    · omega
    · have : q = 1 := by omega
      subst this; simp at hq
  rw [this]; simp
open Classical in
theorem prm_inv {p : Int} (hp : prmB p = true) : ∃ inv : Int → Int, ∀ x, ¬ p ∣ x → p ∣ x * inv x - 1 := by
  refine ⟨fun x => if h : ∃ y, p ∣ x * y - 1 then h.choose else 0, fun x hx => ?_⟩
  have h := prm_inv1 hp x hx
  simp only [dif_pos h]
  exact h.choose_spec
theorem dvd_mod_sub {p x : Int} : p ∣ x - x % p := by
  have := Int.mul_ediv_add_emod x p
  exact ⟨x / p, by omega⟩
/-- The ways to the corner are Pascal's numbers. -/
theorem cnt_pas {p : Int} {n m : Nat} : ∀ (k i j : Nat), i ≤ n → i + j + k = n + m → p ∣ cnt n m k i j - pas p k (n - i)
  | 0, i, j, h1, h2 => by
    by_cases e : i = n
    · subst e
      have e2 : j = m := by omega
      subst e2
      have e1 : cnt i j 0 i j = 1 := by simp [cnt]
      rw [e1, Nat.sub_self]
      exact dvd_mod_sub
    · have e1 : cnt n m 0 i j = 0 := by simp [cnt, e]
      rw [e1, pas_zero p 0 _ (by omega)]
      exact Int.dvd_zero p
  | k + 1, i, j, h1, h2 => by
    simp only [cnt]
    have k2 := cnt_pas (p := p) (n := n) (m := m) k i (j + 1) h1 (by omega)
    by_cases e : i = n
    · subst e
      rw [cnt_out k (i + 1) j (by omega), Int.zero_add, Nat.sub_self, pas_col]
      rw [Nat.sub_self, pas_col] at k2
      exact k2
    · have k1 := cnt_pas (p := p) (n := n) (m := m) k (i + 1) j (by omega) (by omega)
      obtain ⟨s, hs⟩ : ∃ s, n - i = s + 1 := ⟨n - i - 1, by omega⟩
      rw [show n - (i + 1) = s by omega] at k1
      rw [hs] at k2 ⊢
      have k3 : p ∣ (pas p k (s + 1) + pas p k s) - pas p (k + 1) (s + 1) := dvd_mod_sub
      have := Int.dvd_add (Int.dvd_add k1 k2) k3
      have e2 : ∀ x y u v z : Int, x - u + (y - v) + (v + u - z) = x + y - z := fun x y u v z => by omega
      rw [e2] at this
      exact this
/-- Two neighbours in a row differ, but for the two in the middle. -/
theorem pas_next {p : Int} {q n : Nat} (hp : prmB p = true) (hq : (q : Int) < p) (hn : n + 1 ≤ q) (hne : n + 1 ≠ q - n) : pas p q n ≠ pas p q (n + 1) := by
  obtain ⟨r, hr, rfl⟩ := prm_list hp
  have key : ∀ p ∈ ([2, 3, 5, 7, 11, 13, 17, 19, 23] : List Nat), ∀ q, q < p → (List.range q).all (fun n => decide (n + 1 = q - n) || !((rowsT (p : Int) q).getD n 0 == (rowsT (p : Int) q).getD (n + 1) 0)) = true := by decide +kernel
  have h := key r hr q (by omega)
  rw [List.all_eq_true] at h
  have h2 := h n (List.mem_range.2 (by omega))
  rw [rowsT_eq] at h2
  have g : ∀ i, i ≤ q → ((List.range' 0 (q + 1)).map (pas (r : Int) q)).getD i 0 = pas (r : Int) q i := fun i hi => by
    rw [List.getD_eq_getElem?_getD, List.getElem?_map, List.getElem?_range' (by omega)]
    simp
  rw [g n (by omega), g (n + 1) (by omega)] at h2
  simp [hne] at h2
  exact h2
theorem small_dvd {p x : Int} (h : p ∣ x) (h1 : -p < x) (h2 : x < p) : x = 0 := by
  obtain ⟨k, rfl⟩ := h
  rcases Int.lt_trichotomy k 0 with hk | hk | hk
  · have : p * k ≤ p * (-1) := Int.mul_le_mul_of_nonneg_left (by omega) (by omega)
    omega
  · subst hk; simp
  · have : p * 1 ≤ p * k := Int.mul_le_mul_of_nonneg_left (by omega) (by omega)
    omega

/-- Sums of two lists. -/
theorem cd_list {p : Int} (hp : prmB p = true) {A B C : List Int} (hA : 1 ≤ A.length) (hB : 1 ≤ B.length) (hs : (A.length + B.length : Int) - 2 < p)
    (pA : A.Pairwise (fun x y => ¬ p ∣ y - x)) (pB : B.Pairwise (fun x y => ¬ p ∣ y - x)) (h : ∀ a ∈ A, ∀ b ∈ B, ∃ c ∈ C, p ∣ a + b - c) : A.length + B.length ≤ C.length + 1 := by
  apply Decidable.byContradiction
  intro hc
  obtain ⟨inv, hinv⟩ := prm_inv hp
  obtain ⟨n, hn⟩ : ∃ n, A.length = n + 1 := ⟨A.length - 1, by omega⟩
  obtain ⟨m, hm⟩ : ∃ n, B.length = n + 1 := ⟨B.length - 1, by omega⟩
  have h1 := grid_sum inv hinv hn hm (C := C ++ List.replicate (n + m - C.length) 0) (by simp; omega) pA pB (fun a ha b hb => by
    obtain ⟨c, hc1, hc2⟩ := h a ha b hb
    exact ⟨c, List.mem_append.2 (.inl hc1), hc2⟩)
  have h2 := cnt_pas (p := p) (n := n) (m := m) (n + m) 0 0 (by omega) (by omega)
  have h3 := Int.dvd_sub h1 h2
  rw [Int.sub_sub_self, Nat.sub_zero] at h3
  have h4 := pas_pos hp (show ((n + m : Nat) : Int) < p by omega) (show n ≤ n + m by omega)
  have h5 := pas_bd p (prm_bd hp).1 (n + m) n
  have := small_dvd h3 (by omega) h5.2
  omega
/-- Sums of two different numbers, of lists of different lengths. -/
theorem eh_list1 {p : Int} (hp : prmB p = true) {A B C : List Int} (hA : 1 ≤ A.length) (hB : 1 ≤ B.length) (hne : A.length ≠ B.length) (hs : (A.length + B.length : Int) - 2 ≤ p)
    (pA : A.Pairwise (fun x y => ¬ p ∣ y - x)) (pB : B.Pairwise (fun x y => ¬ p ∣ y - x)) (h : ∀ a ∈ A, ∀ b ∈ B, p ∣ a - b ∨ ∃ c ∈ C, p ∣ a + b - c) : A.length + B.length ≤ C.length + 2 := by
  apply Decidable.byContradiction
  intro hc
  obtain ⟨inv, hinv⟩ := prm_inv hp
  obtain ⟨n, hn⟩ : ∃ n, A.length = n + 1 := ⟨A.length - 1, by omega⟩
  obtain ⟨m, hm⟩ : ∃ n, B.length = n + 1 := ⟨B.length - 1, by omega⟩
  have hL : (C ++ List.replicate (n + m - 1 - C.length) 0).length = n + m - 1 := by simp; omega
  have h1 := grid_diff inv hinv hn hm (C := C ++ List.replicate (n + m - 1 - C.length) 0) (by omega) pA pB (fun a ha b hb => by
    rcases h a ha b hb with h | h
    · exact .inl h
    · obtain ⟨c, hc1, hc2⟩ := h
      exact .inr ⟨c, List.mem_append.2 (.inl hc1), hc2⟩)
  rw [hL] at h1
  obtain ⟨q, hq⟩ : ∃ q, q = n + m - 1 := ⟨_, rfl⟩
  rw [← hq] at h1
  have hqp : (q : Int) < p := by omega
  have h2 := cnt_pas (p := p) (n := n) (m := m) q 0 1 (by omega) (by omega)
  rw [Nat.sub_zero] at h2
  have b1 := pas_bd p (prm_bd hp).1 q n
  by_cases hn0 : n = 0
  · subst hn0
    rw [cnt_out q 1 0 (by omega)] at h1
    have h3 := Int.dvd_add h1 h2
    have h4 := pas_pos hp hqp (show 0 ≤ q by omega)
    have := small_dvd h3 (by omega) (by omega)
    omega
  · obtain ⟨t, rfl⟩ : ∃ t, n = t + 1 := ⟨n - 1, by omega⟩
    have h3 := cnt_pas (p := p) (n := t + 1) (m := m) q 1 0 (by omega) (by omega)
    rw [Nat.add_sub_cancel] at h3
    have h4 := Int.dvd_sub (Int.dvd_add h1 h2) h3
    have e : ∀ x y u v : Int, x - y + (y - u) - (x - v) = v - u := fun x y u v => by omega
    rw [e] at h4
    have b2 := pas_bd p (prm_bd hp).1 q t
    have h5 := small_dvd h4 (by omega) (by omega)
    by_cases hm0 : m = 0
    · have := pas_zero p q (t + 1) (by omega)
      have := pas_pos hp hqp (show t ≤ q by omega)
      omega
    · exact pas_next hp hqp (show t + 1 ≤ q by omega) (by omega) (by omega)
/-- The same without a bound for the lengths' sum. -/
theorem eh_list {p : Int} (hp : prmB p = true) {A B C : List Int} (hA : 1 ≤ A.length) (hB : 1 ≤ B.length) (hA2 : (A.length : Int) ≤ p) (hB2 : (B.length : Int) ≤ p) (hne : A.length ≠ B.length)
    (pA : A.Pairwise (fun x y => ¬ p ∣ y - x)) (pB : B.Pairwise (fun x y => ¬ p ∣ y - x)) (h : ∀ a ∈ A, ∀ b ∈ B, p ∣ a - b ∨ ∃ c ∈ C, p ∣ a + b - c) : p ≤ C.length ∨ (A.length + B.length : Int) - 2 ≤ C.length := by
  by_cases hs : (A.length + B.length : Int) - 2 ≤ p
  · have := eh_list1 hp hA hB hne hs pA pB h
    omega
  · left
    have hodd : p = 2 ∨ p % 2 = 1 := by
      have : p ∈ ([2, 3, 5, 7, 11, 13, 17, 19, 23] : List Int) := by simpa [prmB] using hp
      simp at this
      omega
    obtain ⟨k, hk⟩ : ∃ k : Nat, (k : Int) = p + 2 - B.length := ⟨(p + 2 - B.length).toNat, by omega⟩
    have hl : (A.take k).length = k := by rw [List.length_take]; omega
    have := eh_list1 hp (A := A.take k) (by omega) hB (by omega) (by omega) (pA.sublist (List.take_sublist k A)) pB (fun a ha b hb => h a (List.mem_of_mem_take ha) b hb)
    omega
/-- One list: sums of two different numbers of it. -/
theorem eh_self {p : Int} (hp : prmB p = true) {A C : List Int} (hA2 : (A.length : Int) ≤ p)
    (pA : A.Pairwise (fun x y => ¬ p ∣ y - x)) (h : ∀ a ∈ A, ∀ b ∈ A, p ∣ a - b ∨ ∃ c ∈ C, p ∣ a + b - c) : p ≤ C.length ∨ 2 * (A.length : Int) - 3 ≤ C.length := by
  match A, hA2, pA, h with
  | [], _, _, _ => right; simp only [List.length_nil]; omega
  | [a], _, _, _ => right; simp only [List.length_cons, List.length_nil]; omega
  | a :: b :: t, hA2, pA, h =>
    have := eh_list hp (A := b :: t) (B := a :: b :: t) (C := C) (by simp) (by simp) (by simp at hA2 ⊢; omega) hA2 (by simp) (List.pairwise_cons.1 pA).2 pA (fun x hx y hy => h x (List.mem_cons_of_mem _ hx) y hy)
    simp only [List.length_cons] at this ⊢
    omega

/-- The elements of a set below p are different modulo p. -/
theorem mems_pw {p : Int} {a : Nat} (hb : ∀ x ∈ mems a, 0 ≤ x ∧ x < p) : (mems a).Pairwise (fun x y => ¬ p ∣ y - x) := by
  have h : (mems a).Pairwise (· < ·) := memsTo_lt
  rw [List.pairwise_iff_getElem] at h ⊢
  intro i j hi hj hij hd
  have h1 := h i j hi hj hij
  have h2 := hb _ (List.getElem_mem hi)
  have h3 := hb _ (List.getElem_mem hj)
  have := small_dvd hd (by omega) (by omega)
  omega
theorem gadd_one {P x y : Nat} : ∃ k : Int, (x : Int) + y - (gadd [(P : Int)] x y : Nat) = P * k := by
  have e : gadd [(P : Int)] x y = (x % P + y % P) % P := by simp [gadd]
  rw [e]
  have h1 := Nat.mod_add_div x P
  have h2 := Nat.mod_add_div y P
  have h3 := Nat.mod_add_div (x % P + y % P) P
  refine ⟨((x / P : Nat) : Int) + ((y / P : Nat) : Int) + (((x % P + y % P) / P : Nat) : Int), ?_⟩
  rw [Int.mul_add, Int.mul_add, ← Int.natCast_mul, ← Int.natCast_mul, ← Int.natCast_mul]
  omega
theorem one_elt {p : Int} {a : Nat} {x : Int} (hp : prmB p = true) (ha : a < 2 ^ p.toNat) (hx : x ∈ mems a) : 0 ≤ x ∧ x < p := by
  have hg : gn [p] = p.toNat := by simp [gn, gord]
  have := mems_lt (os := [p]) (by rw [hg]; exact ha) hx
  rw [hg] at this
  omega
/-- Cauchy and Davenport: a set that has all sums has at least n + m - 1 elements. -/
theorem cd_set {p : Int} (hp : prmB p = true) {a b s : Nat} (ha : a < 2 ^ p.toNat) (hb : b < 2 ^ p.toNat) (h1 : 1 ≤ popc a) (h2 : 1 ≤ popc b) (hs : (popc a + popc b : Int) - 2 < p)
    (h : ∀ x y : Nat, a.testBit x = true → b.testBit y = true → s.testBit (gadd [p] x y) = true) (hsl : s < 2 ^ 64) : popc a + popc b ≤ popc s + 1 := by
  rw [← mems_length, ← mems_length, ← mems_length] at *
  refine cd_list hp h1 h2 hs (mems_pw fun x hx => one_elt hp ha hx) (mems_pw fun x hx => one_elt hp hb hx) fun x hx y hy => ?_
  obtain ⟨i, rfl, hi, hbi⟩ := memsTo_mem.1 hx
  obtain ⟨j, rfl, hj, hbj⟩ := memsTo_mem.1 hy
  have hz := h i j hbi hbj
  refine ⟨(gadd [p] i j : Nat), (mems_mem (by simpa using hsl)).2 ⟨_, rfl, hz⟩, ?_⟩
  have e : p = ((p.toNat : Nat) : Int) := by have := prm_bd hp; omega
  obtain ⟨k, hk⟩ := gadd_one (P := p.toNat) (x := i) (y := j)
  rw [← e] at hk
  exact ⟨k, hk⟩
theorem eh_hyp {p : Int} (hp : prmB p = true) {a b s : Nat} (ha : a < 2 ^ p.toNat) (hb : b < 2 ^ p.toNat)
    (h : ∀ x y : Nat, a.testBit x = true → b.testBit y = true → x ≠ y → s.testBit (gadd [p] x y) = true) (hsl : s < 2 ^ 64) : ∀ x ∈ mems a, ∀ y ∈ mems b, p ∣ x - y ∨ ∃ c ∈ mems s, p ∣ x + y - c := fun x hx y hy => by
  obtain ⟨i, rfl, hi, hbi⟩ := memsTo_mem.1 hx
  obtain ⟨j, rfl, hj, hbj⟩ := memsTo_mem.1 hy
  by_cases hij : i = j
  · subst hij; left; simp
  · right
    have hz := h i j hbi hbj hij
    refine ⟨(gadd [p] i j : Nat), (mems_mem (by simpa using hsl)).2 ⟨_, rfl, hz⟩, ?_⟩
    have e : p = ((p.toNat : Nat) : Int) := by have := prm_bd hp; omega
    obtain ⟨k, hk⟩ := gadd_one (P := p.toNat) (x := i) (y := j)
    rw [← e] at hk
    exact ⟨k, hk⟩
theorem popc_lep {p : Int} (hp : prmB p = true) {a : Nat} (ha : a < 2 ^ p.toNat) : (popc a : Int) ≤ p := by
  have h1 := prm_bd hp
  have := popc_le ha (by omega)
  omega
/-- Erdos and Heilbronn, for sets with different numbers of elements. -/
theorem eh_set {p : Int} (hp : prmB p = true) {a b s : Nat} (ha : a < 2 ^ p.toNat) (hb : b < 2 ^ p.toNat) (h1 : 1 ≤ popc a) (h2 : 1 ≤ popc b) (hne : popc a ≠ popc b)
    (h : ∀ x y : Nat, a.testBit x = true → b.testBit y = true → x ≠ y → s.testBit (gadd [p] x y) = true) (hsl : s < 2 ^ 64) : p ≤ popc s ∨ (popc a + popc b : Int) - 2 ≤ popc s := by
  have ha2 := popc_lep hp ha
  have hb2 := popc_lep hp hb
  have hh := eh_hyp hp ha hb h hsl
  rw [← mems_length, ← mems_length, ← mems_length] at *
  exact eh_list hp h1 h2 ha2 hb2 hne (mems_pw fun x hx => one_elt hp ha hx) (mems_pw fun x hx => one_elt hp hb hx) hh
/-- And for one set. -/
theorem eh_one {p : Int} (hp : prmB p = true) {a s : Nat} (ha : a < 2 ^ p.toNat)
    (h : ∀ x y : Nat, a.testBit x = true → a.testBit y = true → x ≠ y → s.testBit (gadd [p] x y) = true) (hsl : s < 2 ^ 64) : p ≤ popc s ∨ 2 * (popc a : Int) - 3 ≤ popc s := by
  have ha2 := popc_lep hp ha
  have hh := eh_hyp hp ha ha h hsl
  rw [← mems_length, ← mems_length] at *
  exact eh_self hp ha2 (mems_pw fun x hx => one_elt hp ha hx) hh
end Go.Proofs.Ytbidkjhgodkamaa
