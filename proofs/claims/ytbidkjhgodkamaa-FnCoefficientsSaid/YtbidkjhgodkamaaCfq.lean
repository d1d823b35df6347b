/-
Plain laws of FnCoefficients: symmetry of the binomials; Cauchy's and Heilbronn's bounds as the law says them. No condition.
-/
import Derived.Test.YtbidkjhgodkamaaNls2
import Derived.Test.YtbidkjhgodkamaaRst
import Derived.Test.YtbidkjhgodkamaaZgp
import Derived.Test.YtbidkjhgodkamaaHeilbronnBound
import Derived.Test.YtbidkjhgodkamaaCau
import Derived.Test.YtbidkjhgodkamaaDif
namespace Go.Proofs.Ytbidkjhgodkamaa
open Go.RowKit Go.ChangeShapes
set_option linter.unusedVariables false

theorem sumS_gn' {os : List Int} (hg : grpB os = true) {a b : Nat} (ha : a < 18446744073709551616) (hb : b < 18446744073709551616) : sumS os a b < 2 ^ gn os := by
  apply Nat.lt_pow_two_of_testBit
  intro i hi
  cases h : (sumS os a b).testBit i with
  | false => rfl
  | true =>
    obtain ⟨p, q, _, _, e⟩ := (sumS_iff ha hb i).1 h
    have := gadd_lt' (grp_gn hg).1 p q
    omega
theorem pas_diag (p : Int) : ∀ i, pas p i i = 1 % p
  | 0 => by unfold pas; rfl
  | i + 1 => by unfold pas; rw [pas_zero p i (i + 1) (by omega), pas_diag p i, Int.zero_add, Int.emod_emod]
theorem pas_sym (p : Int) : ∀ n k, k ≤ n → pas p n (n - k) = pas p n k
  | n, 0, _ => by rw [Nat.sub_zero, pas_diag, pas_col]
  | 0, k + 1, h => by omega
  | n + 1, k + 1, h => by
    rw [show n + 1 - (k + 1) = n - k by omega]
    by_cases e : n = k
    · subst e
      rw [Nat.sub_self, pas_col, pas_diag]
    · obtain ⟨t, ht⟩ : ∃ t, n - k = t + 1 := ⟨n - k - 1, by omega⟩
      rw [ht]
      have h1 := pas_sym p n (k + 1) (by omega)
      have h2 := pas_sym p n k (by omega)
      rw [show n - (k + 1) = t by omega] at h1
      rw [ht] at h2
      show (pas p n (t + 1) + pas p n t) % p = (pas p n (k + 1) + pas p n k) % p
      rw [h1, h2, Int.add_comm]
theorem bmv_sym {n k p : Int} (h : 0 ≤ bmv n k p) : bmv n (n - k) p = bmv n k p := by
  by_cases hc : inB n 0 60 = true ∧ inB k 0 n = true ∧ prmB p = true
  · obtain ⟨h1, h2, h3⟩ := hc
    have h4 := inB_true.1 h1
    have h5 := inB_true.1 h2
    have h6 : inB (n - k) 0 n = true := inB_true.2 (by omega)
    unfold bmv
    rw [if_pos ⟨h1, h6, h3⟩, if_pos ⟨h1, h2, h3⟩, ← pas_sym p n.toNat k.toNat (by omega)]
    congr 1
    omega
  · unfold bmv at h
    rw [if_neg hc] at h
    omega
theorem bmv_bd (n k p : Int) : -1 ≤ bmv n k p ∧ bmv n k p ≤ 23 := by
  unfold bmv
  split
  · rename_i h
    have h1 := prm_bd h.2.2
    have h2 := pas_bd p h1.1 n.toNat k.toNat
    omega
  · omega
theorem prm_ordV (p : Int) : prmB (ordV [p]) = prmB p := by
  cases hp : prmB p with
  | true =>
    obtain ⟨h1, h2⟩ := grp_prm hp
    have := prm_bd hp
    rw [ordV_of h1, h2, show ((p.toNat : Nat) : Int) = p by omega, hp]
  | false =>
    cases hg : grpB [p] with
    | false =>
      have : ordV [p] = 0 := by unfold ordV; rw [hg]; rfl
      rw [this]; rfl
    | true =>
      rw [ordV_of hg]
      obtain ⟨g2, g3, g4, g5, g6⟩ := grp_gn hg
      have : (gn [p] : Int) = p := by rw [g5]; simp [gord]
      rw [this, hp]
/-- What the law says of sets modulo a prime. -/
theorem cf_law {p a b c : Int} (hp : prmB p = true) (ha : setB [p] a = true) (hb : setB [p] b = true) (hc : setB [p] c = true) :
    ∃ A B S : Nat, a = (A : Int) ∧ b = (B : Int) ∧ sosV [p] a b = (S : Int) ∧ A < 2 ^ p.toNat ∧ B < 2 ^ p.toNat ∧ S < 2 ^ p.toNat ∧ S < 16777216 ∧ cntV [p] a = (popc A : Int) ∧ cntV [p] b = (popc B : Int) ∧ cntV [p] (S : Int) = (popc S : Int) ∧
    (bits .and .i64 (S : Int) c == (S : Int)) = zgB p a b c ∧ (popc A : Int) ≤ p ∧ (popc B : Int) ≤ p ∧
    (1 ≤ popc A → 1 ≤ popc B → cpB p (popc A) (popc B) = decide ((popc A : Int) + popc B - 2 < p) ∧
      ((popc A : Int) + popc B - 2 < p → 1 ≤ cpV p (popc A) (popc B) ∧ cpV p (popc A) (popc B) < p ∧ popc A + popc B ≤ popc S + 1)) := by
  obtain ⟨hg, hgn⟩ := grp_prm hp
  have hpb := prm_bd hp
  obtain ⟨A, rfl, a1, a2, _, a3, _⟩ := setB_bd ha
  obtain ⟨B, rfl, b1, b2, _, b3, _⟩ := setB_bd hb
  obtain ⟨C, rfl, c1, c2, _, c3, _⟩ := setB_bd hc
  have hS := sumS_lt hg A B
  have hS2 := sumS_gn' hg (a := A) (b := B) (by omega) (by omega)
  have e1 := sosV_of ha hb
  rw [hgn] at a3 b3 c3 hS2
  refine ⟨A, B, sumS [p] A B, rfl, rfl, e1, a3, b3, hS2, by simpa using hS, by apply cntV_of hg; rw [hgn]; exact a3, by apply cntV_of hg; rw [hgn]; exact b3, by apply cntV_of hg; rw [hgn]; exact hS2, ?_, popc_lep hp a3, popc_lep hp b3, ?_⟩
  · rw [and_nat _ _ (by omega) (by omega)]
    unfold zgB
    rw [hp, ha, hb, hc]
    simp only [Bool.true_and, Int.toNat_natCast]
    rw [Bool.eq_iff_iff, minus_zero (by omega) (by omega), beq_iff_eq]
    constructor
    · intro h i hi
      have h' : sumS [p] A B &&& C = sumS [p] A B := by exact_mod_cast h
      rw [← h', Nat.testBit_and] at hi
      simp only [Bool.and_eq_true] at hi
      exact hi.2
    · intro h
      have h' : sumS [p] A B &&& C = sumS [p] A B := by
        apply Nat.eq_of_testBit_eq
        intro i
        rw [Nat.testBit_and]
        cases e : (sumS [p] A B).testBit i with
        | false => rfl
        | true => rw [h i e]; rfl
      rw [h']
  · intro h1 h2
    have hA := popc_lep hp a3
    have hB := popc_lep hp b3
    have hcp : cpB p (popc A) (popc B) = decide ((popc A : Int) + popc B - 2 < p) := by
      unfold cpB
      rw [hp, inB_true.2 (show (1 : Int) ≤ popc A ∧ (popc A : Int) ≤ p by omega), inB_true.2 (show (1 : Int) ≤ popc B ∧ (popc B : Int) ≤ p by omega)]
      rfl
    refine ⟨hcp, fun h3 => ?_⟩
    have h4 : cpB p (popc A) (popc B) = true := by rw [hcp]; simpa using h3
    have h5 := cp_cov h4
    have h6 := pas_bd p hpb.1 ((popc A : Int) + popc B - 2).toNat ((popc A : Int) - 1).toNat
    have e2 : cpV p (popc A) (popc B) = cpN p (popc A) (popc B) := by unfold cpV; rw [if_pos h4]
    rw [e2]
    refine ⟨by omega, h6.2, ?_⟩
    refine cd_set hp a3 b3 h1 h2 (by omega) (fun x y hx hy => ?_) (Nat.lt_of_lt_of_le hS (Nat.pow_le_pow_right (by decide) (by decide)))
    exact (sumS_iff (by omega) (by omega) _).2 ⟨x, y, hx, hy, rfl⟩
/-- Heilbronn's bound. -/
theorem hb_law {p : Int} {A B R : Nat} (hp : prmB p = true) (ha : A < 2 ^ p.toNat) (hb : B < 2 ^ p.toNat) (hR : R < 2 ^ p.toNat) (h1 : 1 ≤ popc A) (h2 : 1 ≤ popc B)
    (h : ∀ x y : Nat, A.testBit x = true → B.testBit y = true → x ≠ y → R.testBit (gadd [p] x y) = true) (hne : popc A ≠ popc B ∨ A = B) : hbv p (popc A) (popc B) ≤ popc R := by
  have hA := popc_lep hp ha
  have hB := popc_lep hp hb
  have hpb := prm_bd hp
  have hR64 : R < 2 ^ 64 := Nat.lt_of_lt_of_le hR (Nat.pow_le_pow_right (by decide) (by omega))
  unfold hbv
  rw [if_pos ⟨hp, inB_true.2 (by omega), inB_true.2 (by omega)⟩]
  by_cases e : popc A = popc B
  · have eAB : A = B := by omega
    subst eAB
    rw [if_pos rfl]
    have := eh_one hp ha h hR64
    omega
  · rw [if_neg (by omega)]
    have := eh_set hp ha hb h1 h2 e h hR64
    omega
end Go.Proofs.Ytbidkjhgodkamaa
