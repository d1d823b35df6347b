/-
Colorings by digits have no solution of one color where no sum of coefficients is divisible by the prime: plain. No condition.
-/
import Derived.Test.YtokpgbpdmfibjaaSol2
import Derived.Test.YtokpgbpdmfibjaaDig
import Derived.Test.YtokpgbpdmfibjaaNls1
import Derived.Test.YtokpgbpdmfibjaaZc
namespace Go.Proofs.Ytokpgbpdmfibjaa
open Go.RowKit Go.ChangeShapes
set_option linter.unusedVariables false

/-- The sum of the coefficients by the bits of a number. -/
def subS : List Int → Nat → Int
  | [], _ => 0
  | x :: xs, m => (if m % 2 = 1 then x else 0) + subS xs (m / 2)
theorem csum_cons (x : Int) (xs : List Int) (m : Nat) : ∀ j, csum (x :: xs) m (j + 1) = (if m % 2 = 1 then x else 0) + csum xs (m / 2) j
  | 0 => by
    unfold csum
    by_cases h : m % 2 = 1
    · simp [csum, Nat.testBit_zero, h]
    · simp [csum, Nat.testBit_zero, h]
  | j + 1 => by
    have ih := csum_cons x xs m j
    have e1 : csum (x :: xs) m (j + 1 + 1) = if m.testBit (j + 1) = true then csum (x :: xs) m (j + 1) + (x :: xs).getD (j + 1) 0 else csum (x :: xs) m (j + 1) := rfl
    have e2 : csum xs (m / 2) (j + 1) = if (m / 2).testBit j = true then csum xs (m / 2) j + xs.getD j 0 else csum xs (m / 2) j := rfl
    rw [e1, e2, ih, Nat.testBit_succ]
    have e3 : (x :: xs).getD (j + 1) 0 = xs.getD j 0 := by simp [List.getD]
    rw [e3]
    split <;> omega
theorem csum_sub : ∀ (xs : List Int) (m : Nat), csum xs m xs.length = subS xs m
  | [], m => rfl
  | x :: xs, m => by
    rw [List.length_cons, csum_cons, csum_sub xs (m / 2)]
    rfl
/-- The bits of the numbers that p does not divide. -/
def mk (p : Nat) : List Nat → Nat
  | [] => 0
  | y :: t => (if y % p = 0 then 0 else 1) + 2 * mk p t
theorem mk_lt (p : Nat) : ∀ zs, mk p zs < 2 ^ zs.length
  | [] => by simp [mk]
  | y :: t => by
    have := mk_lt p t
    rw [List.length_cons, Nat.pow_succ]
    unfold mk
    split <;> omega
theorem mk_zero {p : Nat} : ∀ {zs}, mk p zs = 0 → ∀ y ∈ zs, y % p = 0
  | [], _, y, h => by simp at h
  | z :: t, h, y, hy => by
    unfold mk at h
    by_cases e : z % p = 0
    · rcases List.mem_cons.1 hy with hy | hy
      · subst hy; exact e
      · exact mk_zero (by omega) y hy
    · rw [if_neg e] at h; omega
theorem lin_mod {p r : Nat} : ∀ (c : List Int) (zs : List Nat), zs.length = c.length → (∀ y ∈ zs, y % p ≠ 0 → y % p = r) → (p : Int) ∣ lin c (zs.map fun y : Nat => (y : Int)) - r * subS c (mk p zs)
  | [], [], _, _ => by simp [lin, subS]
  | c :: cs, y :: t, h, hr => by
    have ih := lin_mod cs t (by simpa using h) (fun z hz => hr z (List.mem_cons_of_mem _ hz))
    simp only [List.map_cons, lin, subS]
    by_cases e : y % p = 0
    · have e1 : mk p (y :: t) = 2 * mk p t := by rw [mk, if_pos e]; omega
      rw [e1, show 2 * mk p t % 2 = 0 by omega, show 2 * mk p t / 2 = mk p t by omega, if_neg (by decide), Int.zero_add]
      have h1 : (p : Int) ∣ c * y := Int.dvd_mul_of_dvd_right (Int.natCast_dvd_natCast.2 (Nat.dvd_of_mod_eq_zero e))
      have e2 : ∀ a b d : Int, a + b - d = a + (b - d) := fun a b d => by omega
      rw [e2]
      exact Int.dvd_add h1 ih
    · have e1 : mk p (y :: t) = 1 + 2 * mk p t := by rw [mk, if_neg e]
      rw [e1, show (1 + 2 * mk p t) % 2 = 1 by omega, show (1 + 2 * mk p t) / 2 = mk p t by omega, if_pos rfl, Int.mul_add]
      have h2 := hr y (List.mem_cons_self ..) e
      have h1 : (p : Int) ∣ c * y - r * c := by
        rw [Int.mul_comm c y, ← Int.sub_mul]
        refine Int.dvd_mul_of_dvd_left ?_
        rw [← h2, Int.natCast_emod]
        exact dvd_mod_sub
      have e2 : ∀ a b d e : Int, a + b - (d + e) = (a - d) + (b - e) := fun a b d e => by omega
      rw [e2]
      exact Int.dvd_add h1 ih
theorem lin_div {p : Nat} : ∀ (c : List Int) (zs : List Nat), (∀ y ∈ zs, y % p = 0) → lin c (zs.map fun y : Nat => (y : Int)) = p * lin c ((zs.map (· / p)).map fun y : Nat => (y : Int))
  | [], zs, _ => by cases zs <;> simp [lin]
  | c :: cs, [], _ => by simp [lin]
  | c :: cs, y :: t, h => by
    have ih := lin_div (p := p) cs t (fun z hz => h z (List.mem_cons_of_mem _ hz))
    simp only [List.map_cons, lin, ih, Int.mul_add]
    have h1 := Nat.mod_add_div y p
    rw [h y (List.mem_cons_self ..), Nat.zero_add] at h1
    have h2 : (y : Int) = p * ((y / p : Nat) : Int) := by rw [← Int.natCast_mul, h1]
    rw [Int.mul_left_comm (p : Int) c, ← h2]
theorem strip_ne {p : Nat} (hp : 2 ≤ p) : ∀ n y : Nat, y ≤ n → y ≠ 0 → strip p y % p ≠ 0
  | 0, y, h, h0 => by omega
  | n + 1, y, h, h0 => by
    by_cases e : y % p = 0
    · rw [strip_go hp h0 e]
      have := Nat.div_lt_self (Nat.pos_of_ne_zero h0) hp
      refine strip_ne hp n (y / p) (by omega) (fun e2 => ?_)
      have h1 := Nat.mod_add_div y p
      rw [e, e2] at h1
      omega
    · rw [strip_end e]; exact e
theorem sum_div {p : Nat} (hp : 2 ≤ p) : ∀ (zs : List Nat), zs ≠ [] → (∀ y ∈ zs, 1 ≤ y) → (zs.map (· / p)).sum < zs.sum
  | [], h, _ => absurd rfl h
  | [y], _, h => by
    have := h y (List.mem_cons_self ..)
    have := Nat.div_lt_self (show 0 < y by omega) hp
    simpa using this
  | y :: z :: t, _, h => by
    have ih := sum_div hp (z :: t) (by simp) (fun u hu => h u (List.mem_cons_of_mem _ hu))
    have h1 := h y (List.mem_cons_self ..)
    have := Nat.div_lt_self (show 0 < y by omega) hp
    rw [List.map_cons, List.sum_cons, List.sum_cons]
    omega
theorem no_digit {p r : Nat} (hp : prmB (p : Int) = true) {c : List Int} (hc : c ≠ []) (hS : ∀ m, 0 < m → m < 2 ^ c.length → ¬ (p : Int) ∣ subS c m) :
    ∀ (N : Nat) (zs : List Nat), zs.sum ≤ N → zs.length = c.length → (∀ y ∈ zs, 1 ≤ y ∧ strip p y % p = r) → lin c (zs.map fun y : Nat => (y : Int)) ≠ 0
  | N, zs, hN, hl, hz => fun h0 => by
    have hp2 := (prm_bd hp).1
    have hne : zs ≠ [] := fun e => by subst e; simp at hl; exact hc (List.eq_nil_of_length_eq_zero hl.symm)
    obtain ⟨y0, hy0⟩ : ∃ y, y ∈ zs := by
      cases zs with
      | nil => exact absurd rfl hne
      | cons y t => exact ⟨y, List.mem_cons_self ..⟩
    have hr0 : r ≠ 0 := by
      obtain ⟨h1, h2⟩ := hz y0 hy0
      rw [← h2]; exact strip_ne (by omega) y0 y0 (Nat.le_refl _) (by omega)
    have hrp : r < p := by
      obtain ⟨h1, h2⟩ := hz y0 hy0
      rw [← h2]; exact Nat.mod_lt _ (by omega)
    by_cases hm : mk p zs = 0
    · have hd := mk_zero hm
      have h1 := lin_div (p := p) c zs hd
      rw [h0] at h1
      have h2 : lin c ((zs.map (· / p)).map fun y : Nat => (y : Int)) = 0 := by
        rcases Int.mul_eq_zero.1 h1.symm with h | h
        · omega
        · exact h
      have hlt := sum_div (p := p) (by omega) zs hne (fun y hy => (hz y hy).1)
      match N, hN with
      | 0, hN => omega
      | N + 1, hN =>
        refine no_digit (r := r) hp hc hS N (zs.map (· / p)) (by omega) (by simpa using hl) (fun y hy => ?_) h2
        rw [List.mem_map] at hy
        obtain ⟨z, hz1, rfl⟩ := hy
        obtain ⟨h3, h4⟩ := hz z hz1
        have h5 := hd z hz1
        refine ⟨?_, by rw [← h4, strip_go (p := p) (by omega) (by omega) h5]⟩
        have h6 := Nat.mod_add_div z p
        rcases Nat.eq_zero_or_pos (z / p) with h7 | h7
        · rw [h5, h7] at h6; omega
        · exact h7
    · have h1 := lin_mod (p := p) (r := r) c zs hl (fun y hy hne => by rw [← (hz y hy).2, strip_end hne])
      rw [h0, Int.zero_sub] at h1
      have h2 := (Int.dvd_neg).1 h1
      obtain ⟨inv, hinv⟩ := prm_inv hp
      have h3 := hinv (r : Int) (fun hd => by
        have := small_dvd hd (by omega) (by omega)
        omega)
      have h4 : (p : Int) ∣ subS c (mk p zs) := by
        have k1 : (p : Int) ∣ inv r * (r * subS c (mk p zs)) := Int.dvd_mul_of_dvd_right h2
        have k2 : (p : Int) ∣ (r * inv r - 1) * subS c (mk p zs) := Int.dvd_mul_of_dvd_left h3
        have k3 := Int.dvd_sub k1 k2
        have e : inv r * (r * subS c (mk p zs)) - (r * inv r - 1) * subS c (mk p zs) = subS c (mk p zs) := by
          rw [Int.sub_mul, Int.one_mul, ← Int.mul_assoc, Int.mul_comm (inv r)]; omega
        rwa [e] at k3
      have h5 := mk_lt p zs
      rw [hl] at h5
      exact hS _ (Nat.pos_of_ne_zero hm) h5 h4
theorem cbd_getD {p n i : Nat} (h : i < n) : (cbd p n).getD i 0 = ((strip p (i + 1) % p : Nat) : Int) - 1 := by
  simp [cbd, List.getD_eq_getElem?_getD, h]
/-- No solution of one color. -/
theorem rad_no {p n : Nat} (hp : prmB (p : Int) = true) {c : List Int} (hc : c ≠ []) (hS : ∀ m, 0 < m → m < 2 ^ c.length → ¬ (p : Int) ∣ subS c m) : hasM c (cbd p n) = false := by
  cases hh : hasM c (cbd p n) with
  | false => rfl
  | true =>
    simp only [hasM, List.any_eq_true] at hh
    obtain ⟨z, hz, hm⟩ := hh
    obtain ⟨t, ht, h1, h2, h3⟩ := solL_mem hz
    rw [List.nil_append] at ht
    subst ht
    rw [cbd_len] at h2
    cases z with
    | nil => exact absurd (List.eq_nil_of_length_eq_zero h1.symm) hc
    | cons a u =>
      have e : ((a :: u).map Int.toNat).map (fun y : Nat => (y : Int)) = a :: u := by
        rw [List.map_map]
        conv => rhs; rw [← List.map_id (a :: u)]
        apply List.map_congr_left
        intro y hy
        have := h2 y hy
        simp only [Function.comp, id]
        omega
      have hcol : ∀ k ∈ a :: u, (cbd p n).getD (k - 1).toNat 0 = ((strip p k.toNat % p : Nat) : Int) - 1 := fun k hk => by
        have := h2 k hk
        rw [cbd_getD (by omega), show (k - 1).toNat + 1 = k.toNat by omega]
      simp only [mono, List.all_eq_true, List.headD_cons, beq_iff_eq] at hm
      have := no_digit (r := strip p a.toNat % p) hp hc hS _ ((a :: u).map Int.toNat) (Nat.le_refl _) (by rw [List.length_map]; exact h1) (fun y hy => by
        rw [List.mem_map] at hy
        obtain ⟨k, hk, rfl⟩ := hy
        have h4 := h2 k hk
        have h5 := hm k hk
        rw [hcol k hk, hcol a (List.mem_cons_self ..)] at h5
        exact ⟨by omega, by omega⟩)
      rw [e] at this
      exact absurd h3 this
end Go.Proofs.Ytokpgbpdmfibjaa
