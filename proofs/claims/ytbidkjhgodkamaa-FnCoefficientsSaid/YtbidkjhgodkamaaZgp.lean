/-
Products of the numbers x + y - z modulo a prime: they vanish where the sum is one of the z. Plain; no condition.
-/
import Derived.Test.YtbidkjhgodkamaaCsf
import Derived.Test.YtbidkjhgodkamaaDif
import Derived.Test.YtbidkjhgodkamaaAlg
namespace Go.Proofs.Ytbidkjhgodkamaa
open Go.RowKit Go.ChangeShapes
set_option linter.unusedVariables false

/-- The product modulo p of s - z + p over a list. -/
def pz (p s : Int) (l : List Int) : Int := l.foldl (fun n z => n * ((s - z + p) % p) % p) 1
theorem pz_take {p s : Int} {l : List Int} {k : Nat} (h : k < l.length) : pz p s (l.take (k + 1)) = pz p s (l.take k) * ((s - l[k] + p) % p) % p := by
  unfold pz
  rw [List.take_succ_eq_append_getElem h, List.foldl_append]
  rfl
theorem prm_mem {p : Int} (hp : prmB p = true) : ∃ q : Nat, q ∈ ([2, 3, 5, 7, 11, 13, 17, 19, 23] : List Nat) ∧ p = q := by
  have hp' : p ∈ ([2, 3, 5, 7, 11, 13, 17, 19, 23] : List Int) := by simpa [prmB] using hp
  simp only [List.mem_cons, List.not_mem_nil, or_false] at hp'
  rcases hp' with h | h | h | h | h | h | h | h | h <;> subst h
  · exact ⟨2, by decide, rfl⟩
  · exact ⟨3, by decide, rfl⟩
  · exact ⟨5, by decide, rfl⟩
  · exact ⟨7, by decide, rfl⟩
  · exact ⟨11, by decide, rfl⟩
  · exact ⟨13, by decide, rfl⟩
  · exact ⟨17, by decide, rfl⟩
  · exact ⟨19, by decide, rfl⟩
  · exact ⟨23, by decide, rfl⟩
theorem prm_dom {p n m : Int} (hp : prmB p = true) (hn : 0 ≤ n ∧ n < p) (hm : 0 ≤ m ∧ m < p) : n * m % p = 0 ↔ n = 0 ∨ m = 0 := by
  obtain ⟨q, hq, rfl⟩ := prm_mem hp
  obtain ⟨n, rfl⟩ := Int.eq_ofNat_of_zero_le hn.1
  obtain ⟨m, rfl⟩ := Int.eq_ofNat_of_zero_le hm.1
  have key : ∀ q ∈ ([2, 3, 5, 7, 11, 13, 17, 19, 23] : List Nat), ∀ n : Nat, n < q → ∀ m : Nat, m < q → n * m % q = 0 → n = 0 ∨ m = 0 := by decide +kernel
  constructor
  · intro h
    have h2 : n * m % q = 0 := by
      have : ((n * m % q : Nat) : Int) = 0 := by rw [Int.natCast_emod, Int.natCast_mul]; exact h
      omega
    rcases key q hq n (by omega) m (by omega) h2 with h | h
    · left; rw [h]; rfl
    · right; rw [h]; rfl
  · rintro (h | h) <;> rw [h] <;> simp
theorem pz_bd {p s : Int} (hp : prmB p = true) : ∀ (l : List Int), 0 ≤ pz p s l ∧ pz p s l < p := by
  intro l
  have h1 := prm_bd hp
  have key : ∀ (l : List Int) (n : Int), 0 ≤ n ∧ n < p → 0 ≤ l.foldl (fun n z => n * ((s - z + p) % p) % p) n ∧ l.foldl (fun n z => n * ((s - z + p) % p) % p) n < p := by
    intro l
    induction l with
    | nil => intro n h; exact h
    | cons z l ih => intro n h; exact ih _ ⟨Int.emod_nonneg _ (by omega), Int.emod_lt_of_pos _ (by omega)⟩
  exact key l 1 (by omega)
theorem pz_zero {p s : Int} (hp : prmB p = true) (l : List Int) : pz p s l = 0 ↔ ∃ z ∈ l, (s - z + p) % p = 0 := by
  have h1 := prm_bd hp
  have key : ∀ (l : List Int) (n : Int), 0 ≤ n ∧ n < p → (l.foldl (fun n z => n * ((s - z + p) % p) % p) n = 0 ↔ n = 0 ∨ ∃ z ∈ l, (s - z + p) % p = 0) := by
    intro l
    induction l with
    | nil => intro n h; simp
    | cons z l ih =>
      intro n h
      rw [List.foldl_cons, ih _ ⟨Int.emod_nonneg _ (by omega), Int.emod_lt_of_pos _ (by omega)⟩, prm_dom hp h ⟨Int.emod_nonneg _ (by omega), Int.emod_lt_of_pos _ (by omega)⟩]
      simp only [List.mem_cons, exists_eq_or_imp, or_assoc]
  have := key l 1 (by omega)
  unfold pz
  rw [this]
  simp
theorem grp_prm {p : Int} (hp : prmB p = true) : grpB [p] = true ∧ gn [p] = p.toNat := by
  have h := prm_bd hp
  have h2 : inB p 2 24 = true := inB_true.2 (by omega)
  refine ⟨?_, by simp [gn, gord]⟩
  simp [grpB, ordsIn, h2, gord]
  omega
/-- What IsZeroGrid returns. -/
def zgB (p a b c : Int) : Bool := prmB p && (setB [p] a && (setB [p] b && (setB [p] c && (minusS (sumS [p] a.toNat b.toNat) c.toNat == 0))))
theorem minus_zero {s c : Nat} (hs : s < 9223372036854775808) (hc : c < 9223372036854775808) : (minusS s c == 0) = true ↔ ∀ i, s.testBit i = true → c.testBit i = true := by
  rw [beq_iff_eq]
  constructor
  · intro h i hi
    have := minusS_bit s c i hs hc
    rw [h, hi] at this
    simpa using this.symm
  · intro h
    apply Nat.eq_of_testBit_eq
    intro i
    rw [minusS_bit s c i hs hc]
    cases h1 : s.testBit i with
    | false => simp
    | true => simp [h i h1]
theorem zg_sum {p : Int} {a b c : Nat} (hp : prmB p = true) (ha : a < 2 ^ p.toNat) (hb : b < 2 ^ p.toNat) (hc : c < 2 ^ p.toNat) :
    ((minusS (sumS [p] a b) c == 0) = true) ↔ ∀ x ∈ mems a, ∀ y ∈ mems b, pz p (x + y) (mems c) = 0 := by
  obtain ⟨hg, hgn⟩ := grp_prm hp
  have h1 := prm_bd hp
  have l24 : ∀ {m : Nat}, m < 2 ^ p.toNat → m < 16777216 := fun {m} hm => by
    have := Nat.pow_le_pow_right (n := 2) (by decide) (show p.toNat ≤ 24 by omega)
    have e : (2 : Nat) ^ 24 = 16777216 := by decide
    omega
  have la := l24 ha
  have lb := l24 hb
  have lc := l24 hc
  have ls := sumS_lt hg a b
  rw [minus_zero (by omega) (by omega)]
  have hadd : ∀ x y : Nat, gadd [p] x y = (x % p.toNat + y % p.toNat) % p.toNat := fun x y => by simp [gadd]
  have helt : ∀ {m : Nat}, m < 2 ^ p.toNat → ∀ x ∈ mems m, ∃ i : Nat, x = (i : Int) ∧ i < p.toNat ∧ m.testBit i = true := fun {m} hm x hx => by
    obtain ⟨k1, k2, k3⟩ := mems_lt (os := [p]) (by rw [hgn]; exact hm) hx
    rw [hgn] at k2
    exact ⟨x.toNat, by omega, k2, k3⟩
  constructor
  · intro h x hx y hy
    obtain ⟨i, rfl, hi, hbi⟩ := helt ha x hx
    obtain ⟨j, rfl, hj, hbj⟩ := helt hb y hy
    have hz := h _ ((sumS_iff (by omega) (by omega) _).2 ⟨i, j, hbi, hbj, rfl⟩)
    rw [pz_zero hp]
    refine ⟨(gadd [p] i j : Nat), (mems_mem (by omega)).2 ⟨_, rfl, hz⟩, ?_⟩
    rw [hadd, Nat.mod_eq_of_lt hi, Nat.mod_eq_of_lt hj]
    have e := Nat.mod_add_div (i + j) p.toNat
    by_cases hlt : i + j < p.toNat
    · rw [Nat.mod_eq_of_lt hlt]
      have : (i : Int) + j - ((i + j : Nat) : Int) + p = p := by omega
      rw [this, Int.emod_self]
    · have h2 : (i + j) % p.toNat = i + j - p.toNat := by rw [Nat.mod_eq_sub_mod (by omega), Nat.mod_eq_of_lt (by omega)]
      rw [h2]
      have : (i : Int) + j - ((i + j - p.toNat : Nat) : Int) + p = p + p := by omega
      rw [this]
      simp
  · intro h s hs
    obtain ⟨i, j, hbi, hbj, rfl⟩ := (sumS_iff (by omega) (by omega) s).1 hs
    have hi := bit_lt ha hbi
    have hj := bit_lt hb hbj
    have hz := h i ((mems_mem (by omega)).2 ⟨i, rfl, hbi⟩) j ((mems_mem (by omega)).2 ⟨j, rfl, hbj⟩)
    rw [pz_zero hp] at hz
    obtain ⟨z, hz1, hz2⟩ := hz
    obtain ⟨t, rfl, ht, hbt⟩ := helt hc z hz1
    rw [hadd, Nat.mod_eq_of_lt hi, Nat.mod_eq_of_lt hj]
    have hd := Int.dvd_of_emod_eq_zero hz2
    obtain ⟨k, hk⟩ := hd
    have e : (i + j) % p.toNat = t := by
      by_cases hlt : i + j < p.toNat
      · rw [Nat.mod_eq_of_lt hlt]
        have k1 : k = 1 := by
          rcases Int.lt_trichotomy k 1 with h3 | h3 | h3
          · have : p * k ≤ p * 0 := Int.mul_le_mul_of_nonneg_left (by omega) (by omega)
            omega
          · exact h3
          · have : p * 2 ≤ p * k := Int.mul_le_mul_of_nonneg_left (by omega) (by omega)
            omega
        subst k1; omega
      · rw [Nat.mod_eq_sub_mod (by omega), Nat.mod_eq_of_lt (by omega)]
        have k1 : k = 2 := by
          rcases Int.lt_trichotomy k 2 with h3 | h3 | h3
          · have : p * k ≤ p * 1 := Int.mul_le_mul_of_nonneg_left (by omega) (by omega)
            omega
          · exact h3
          · have : p * 3 ≤ p * k := Int.mul_le_mul_of_nonneg_left (by omega) (by omega)
            omega
        subst k1; omega
    rw [e]; exact hbt
end Go.Proofs.Ytbidkjhgodkamaa
