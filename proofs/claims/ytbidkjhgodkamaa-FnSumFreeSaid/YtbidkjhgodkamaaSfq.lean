/-
Largest sets without sums, parts and middle thirds, as FnSumFree says it of them. No condition.
-/
import Derived.Test.YtbidkjhgodkamaaGct
import Derived.Test.YtbidkjhgodkamaaSfl
import Derived.Test.YtbidkjhgodkamaaCsf
import Derived.Test.YtbidkjhgodkamaaDrw7
namespace Go.Proofs.Ytbidkjhgodkamaa
open Go.RowKit Go.ChangeShapes
set_option linter.unusedVariables false

theorem setB_of {os : List Int} {a : Nat} (hg : grpB os = true) (ha : a < 2 ^ gn os) : setB os (a : Int) = true := by
  obtain ⟨g2, g3, g4, g5, g6⟩ := grp_gn hg
  simp only [setB, hg, Bool.true_and, Bool.and_eq_true, decide_eq_true_eq]
  rw [g6]
  exact ⟨by omega, by exact_mod_cast ha⟩
theorem cntV_of {os : List Int} {a : Nat} (hg : grpB os = true) (ha : a < 2 ^ gn os) : cntV os (a : Int) = (popc a : Int) := by
  unfold cntV
  rw [if_pos (setB_of hg ha), Int.toNat_natCast]
theorem ordV_of {os : List Int} (hg : grpB os = true) : ordV os = (gn os : Int) := by
  obtain ⟨g2, g3, g4, g5, g6⟩ := grp_gn hg
  unfold ordV
  rw [if_pos hg, g5]
theorem large_sf {os : List Int} (h : bLargestSumFree os = true) : sfB os (lvLargestSumFree os : Int) = true ∧ 2 * cntV os (lvLargestSumFree os : Int) ≤ ordV os ∧ 0 ≤ cntV os (lvLargestSumFree os : Int) := by
  have hg : grpB os = true := by simp only [bLargestSumFree, Bool.and_eq_true] at h; exact h.1
  obtain ⟨g2, g3, g4, g5, g6⟩ := grp_gn hg
  have e : lvLargestSumFree os = lgGo (freeB os) (gn os) (gn os - 1) 0 0 := by unfold lvLargestSumFree; rw [if_pos h]
  have hlt := lgGo_lt (freeB os) (gn os) (gn os - 1) 0 0 (by omega) (Nat.two_pow_pos _) (Nat.two_pow_pos _)
  have hP := lgGo_P (freeB os) (gn os) (gn os - 1) 0 0 (free_zero os)
  rw [← e] at hlt hP
  have hh := free_half hg hlt hP
  refine ⟨by unfold sfB; rw [setB_of hg hlt, Int.toNat_natCast, hP]; rfl, ?_, ?_⟩
  · rw [cntV_of hg hlt, ordV_of hg]; omega
  · rw [cntV_of hg hlt]; omega
theorem cntV_bd (os : List Int) (a : Int) : -1 ≤ cntV os a ∧ cntV os a ≤ 64 := by
  unfold cntV
  split
  · have := popc_le64 a.toNat
    omega
  · omega
theorem part_sf {os : List Int} {c : Int} (h : sfpB os c = true) : sfB os (sfpV os c : Int) = true ∧ bits .and .i64 (sfpV os c : Int) c = (sfpV os c : Int) ∧ sfB os (mtV os) = true ∧
    (prmB (ordV os) = true → bits .and .i64 c 1 = 0 → cntV os c * cntV os (mtV os) ≤ cntV os (sfpV os c : Int) * (ordV os - 1)) := by
  have h' := h
  simp only [sfpB, Bool.and_eq_true, decide_eq_true_eq] at h'
  obtain ⟨hs, h1⟩ := h'
  obtain ⟨m, rfl, hm, hm2, hg, hmn, hn⟩ := setB_bd hs
  obtain ⟨g2, g3, g4, g5, g6⟩ := grp_gn hg
  have e : sfpV os (m : Int) = bpT (mtTo (gn os) (gn os)) (gn os) (mems m) (gn os - 1) := by
    unfold sfpV
    rw [if_pos h, Int.toNat_natCast]
  have em : mtV os = (mtTo (gn os) (gn os) : Int) := by
    unfold mtV
    rw [if_pos hg, if_pos h1]
  have hbits : ∀ i, (sfpV os (m : Int)).testBit i = true → m.testBit i = true := by
    intro i hi
    rw [e] at hi
    rcases bpT_or (m := mtTo (gn os) (gn os)) (n := gn os) (mems m) (gn os - 1) with h0 | ⟨t, _, _, h0⟩
    · rw [h0] at hi; simp at hi
    · rw [h0, prL_iff (by omega)] at hi
      exact hi.1
  have hfree : freeB os (sfpV os (m : Int)) = true := by
    rw [e]
    rcases bpT_or (m := mtTo (gn os) (gn os)) (n := gn os) (mems m) (gn os - 1) with h0 | ⟨t, _, _, h0⟩
    · rw [h0]; exact free_zero os
    · rw [h0]; exact part_free hg h1 hmn t
  have hlt : sfpV os (m : Int) < 2 ^ gn os := by
    refine Nat.lt_pow_two_of_testBit _ fun i hi => ?_
    by_cases hb : (sfpV os (m : Int)).testBit i = true
    · have := hbits i hb
      have h2 := Nat.testBit_lt_two_pow (Nat.lt_of_lt_of_le hmn (Nat.pow_le_pow_right (by decide) hi))
      rw [h2] at this; cases this
    · simpa using hb
  have hml : mtTo (gn os) (gn os) < 2 ^ gn os := mtTo_lt (gn os) (gn os) (Nat.le_refl _)
  have h24 : sfpV os (m : Int) < 16777216 := by
    have := Nat.pow_le_pow_right (n := 2) (by decide) g4
    have h24' : (2 : Nat) ^ 24 = 16777216 := by decide
    omega
  refine ⟨by unfold sfB; rw [setB_of hg hlt, Int.toNat_natCast, hfree]; rfl, ?_, ?_, ?_⟩
  · rw [and_nat _ _ (by omega) (by omega)]
    congr 1
    refine Nat.eq_of_testBit_eq fun i => ?_
    rw [Nat.testBit_and]
    by_cases hb : (sfpV os (m : Int)).testBit i = true
    · rw [hb, hbits i hb]; rfl
    · have hb' : (sfpV os (m : Int)).testBit i = false := by simpa using hb
      rw [hb']; rfl
  · rw [em]
    unfold sfB
    rw [setB_of hg hml, Int.toNat_natCast, mt_free hg h1]
    rfl
  · intro hp h0
    have h00 : m.testBit 0 = false := by
      have := last_is m (by omega)
      rw [h0] at this
      rw [← this]; rfl
    rw [ordV_of hg] at hp ⊢
    have hmean := part_mean hp hmn h00
    rw [em, cntV_of hg hlt, cntV_of hg hml, cntV_of hg hmn, e]
    have e2 : ((gn os : Nat) : Int) - 1 = ((gn os - 1 : Nat) : Int) := by omega
    rw [e2]
    exact_mod_cast hmean
theorem csf_sf {os : List Int} {f : Int} (h : csfB os f = true) : sfB os f = true := by
  simp only [csfB, Bool.and_eq_true, beq_iff_eq] at h
  obtain ⟨hs, h1⟩ := h
  obtain ⟨m, rfl, hm, hm2, hg, hmn, hn⟩ := setB_bd hs
  obtain ⟨g2, g3, g4, g5, g6⟩ := grp_gn hg
  unfold sfB freeB
  rw [hs, Int.toNat_natCast]
  rw [Int.toNat_natCast] at h1
  rw [h1, g6, ← full_minus (gn os) m g4 hmn, Bool.true_and, beq_iff_eq]
  have hT : (2 : Nat) ^ gn os ≤ 16777216 := by
    have := Nat.pow_le_pow_right (n := 2) (by decide) g4
    have h24' : (2 : Nat) ^ 24 = 16777216 := by decide
    omega
  refine Nat.eq_of_testBit_eq fun i => ?_
  rw [Nat.testBit_and, minusS_bit _ _ _ (by omega) (by omega)]
  cases m.testBit i <;> simp
end Go.Proofs.Ytbidkjhgodkamaa
