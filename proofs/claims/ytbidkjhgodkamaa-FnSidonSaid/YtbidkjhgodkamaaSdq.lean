/-
Plain laws of FnSidon: sets of Sidon obey the bound and have the least energy, largest sets are such sets, difference sets are counted. No condition.
-/
import Derived.Test.YtbidkjhgodkamaaSfb
import Derived.Test.YtbidkjhgodkamaaTtp
import Derived.Test.YtbidkjhgodkamaaSid3
import Derived.Test.YtbidkjhgodkamaaFds
import Derived.Test.YtbidkjhgodkamaaSidonBound
namespace Go.Proofs.Ytbidkjhgodkamaa
open Go.RowKit Go.ChangeShapes
set_option linter.unusedVariables false

theorem popc_gn {os : List Int} {m : Nat} (hn : gn os ≤ 64) (h : m < 2 ^ gn os) : popc m ≤ gn os := by
  have := popc_disj hn h (Nat.two_pow_pos (gn os)) (b := 0) (fun i _ h => by simp at h)
  omega
theorem sid_law {os : List Int} {a : Int} (h : setB os a = true) : ∃ m : Nat, a = (m : Int) ∧ m < 2 ^ gn os ∧ grpB os = true ∧ cntV os a = (popc m : Int) ∧ popc m ≤ 24 ∧
    (sidB os a = true → sbB os (popc m : Int) = true ∧ sqL (tbl os m m) = 2 * (popc m : Int) * (popc m : Int) - (popc m : Int)) ∧ (sidB os a = false → 2 ≤ popc m) := by
  obtain ⟨m, rfl, h1, h2, hg, h3, h4⟩ := setB_bd h
  obtain ⟨g2, g3, g4, g5, g6⟩ := grp_gn hg
  have hp := popc_gn (show gn os ≤ 64 by omega) h3
  refine ⟨m, rfl, h3, hg, cntV_of hg h3, by omega, ?_, ?_⟩
  · intro hs
    have hs2 : sdB os m = true := by
      unfold sidB at hs
      rw [h, Bool.true_and, Int.toNat_natCast] at hs
      exact hs
    have h5 := sid_bound hg h3 hs2
    have h6 := sid_energy hg h3 hs2
    have h7 : ((popc m * popc m : Nat) : Int) = (popc m : Int) * popc m := by push_cast; rfl
    refine ⟨?_, ?_⟩
    · unfold sbB
      rw [hg, Bool.true_and, Bool.and_eq_true, decide_eq_true_eq, inB_true, Int.mul_sub, Int.mul_one, ← g5]
      omega
    · rw [Int.mul_assoc]; omega
  · intro hs
    apply Classical.byContradiction
    intro hn
    have h8 := sid_small (os := os) (a := m) (by omega)
    unfold sidB at hs
    rw [h, Bool.true_and, Int.toNat_natCast] at hs
    simp only [decide_eq_false_iff_not] at hs
    exact hs h8
theorem lsid_law {os : List Int} (h : bLargestSidon os = true) : setB os (lvLargestSidon os : Int) = true ∧ sidB os (lvLargestSidon os : Int) = true := by
  have hg : grpB os = true := by simp only [bLargestSidon, Bool.and_eq_true] at h; exact h.1
  obtain ⟨g2, g3, g4, g5, g6⟩ := grp_gn hg
  have e : lvLargestSidon os = lgGo (sdB os) (gn os) (gn os - 0) 0 0 := by unfold lvLargestSidon; rw [if_pos h]
  have hlt := lgGo_lt (sdB os) (gn os) (gn os - 0) 0 0 (by omega) (Nat.two_pow_pos _) (Nat.two_pow_pos _)
  have hP := lgGo_P (sdB os) (gn os) (gn os - 0) 0 0 (by
    exact sdB_true.2 (sid_small (by decide)))
  rw [← e] at hlt hP
  have hs := setB_of hg hlt
  refine ⟨hs, ?_⟩
  unfold sidB
  rw [hs, Bool.true_and, Int.toNat_natCast]
  exact hP
theorem fds_law {os : List Int} {n : Int} (h : (fdF os n).isSome = true) : dsB os ((fdF os n).getD 0 : Int) = true ∧ cntV os ((fdF os n).getD 0 : Int) = n ∧ dsV os ((fdF os n).getD 0 : Int) * (ordV os - 1) = n * (n - 1) ∧ 2 ≤ n ∧ n ≤ 6 := by
  have hc : fdC os n = true := by
    cases e : fdC os n with
    | true => rfl
    | false => unfold fdF at h; rw [e] at h; simp at h
  have e0 : fdF os n = fdO (fun b => dsB os (b : Int)) (gn os) (gn os - 1) (n - 1).toNat 1 := by unfold fdF; rw [if_pos hc]
  simp only [fdC, Bool.and_eq_true, inB_true] at hc
  obtain ⟨hg, hb, hn⟩ := hc
  obtain ⟨g2, g3, g4, g5, g6⟩ := grp_gn hg
  obtain ⟨b, hb1⟩ := Option.isSome_iff_exists.1 h
  rw [hb1, Option.getD_some]
  rw [e0] at hb1
  have h1 : (1 : Nat) < 2 ^ (gn os - (gn os - 1)) := by
    rw [show gn os - (gn os - 1) = 1 by omega]; decide
  have hlt := fdO_lt _ _ _ _ _ _ (by omega) h1 hb1
  obtain ⟨hP, hpc⟩ := fdO_P (fun b => dsB os (b : Int)) (gn os) (by omega) _ _ _ _ (by omega) h1 hb1
  have hds := ds_count hP hlt
  have hp1 : popc 1 = 1 := by decide
  have hpn : (popc b : Int) = n := by rw [hpc, hp1]; omega
  refine ⟨hP, by rw [cntV_of hg hlt]; exact hpn, ?_, hn.1, hn.2⟩
  rw [ordV_of hg, hds, hpn]
theorem tN_le {os : List Int} (hos : ordsIn os = true) {A B : List Int} {z : Nat} (hz : z < gn os) : tN os A B z ≤ A.length * B.length := by
  rw [← tN_all hos]
  have : ∀ k, z < k → tN os A B z ≤ ns (tN os A B) k := by
    intro k
    induction k with
    | zero => intro h; omega
    | succ k ih =>
      intro h
      show tN os A B z ≤ ns (tN os A B) k + tN os A B k
      by_cases e : z = k
      · subst e; omega
      · have := ih (by omega); omega
  exact this _ hz
/-- The sums of pairs are bounded. -/
theorem tbl_bd {os : List Int} (hg : grpB os = true) {a b : Nat} (ha : a < 2 ^ gn os) (hb : b < 2 ^ gn os) : ∀ x ∈ tbl os a b, 0 ≤ x ∧ x ≤ 576 := by
  obtain ⟨g2, g3, g4, g5, g6⟩ := grp_gn hg
  intro x hx
  obtain ⟨i, hi, rfl⟩ := List.getElem_of_mem hx
  have hl := tbl_len os a b
  have h1 := tbl_get g2 a b (i := i) (by omega)
  have h2 : (tbl os a b).getD i 0 = (tbl os a b)[i] := by simp [List.getD, hi]
  rw [← h2, h1]
  have h3 := tN_le g2 (A := mems a) (B := mems b) (z := i) (by omega)
  rw [mems_length, mems_length] at h3
  have h4 := popc_gn (show gn os ≤ 64 by omega) ha
  have h5 := popc_gn (show gn os ≤ 64 by omega) hb
  have h6 : popc a * popc b ≤ 24 * 24 := Nat.mul_le_mul (by omega) (by omega)
  omega
theorem sqL_bd : ∀ (t : List Int) (k : Nat), (∀ x ∈ t, 0 ≤ x ∧ x ≤ 576) → k ≤ t.length → 0 ≤ sqL (t.take k) ∧ sqL (t.take k) ≤ 331776 * k
  | t, 0, _, _ => by simp [sqL]
  | t, k + 1, h, hk => by
    have ih := sqL_bd t k h (by omega)
    rw [sqL_take (by omega)]
    have hx := h _ (List.getElem_mem (show k < t.length by omega))
    have h1 : t[k] * t[k] ≤ 576 * 576 := Int.mul_le_mul hx.2 hx.2 hx.1 (by omega)
    have h2 : 0 ≤ t[k] * t[k] := Int.mul_nonneg hx.1 hx.1
    omega
end Go.Proofs.Ytbidkjhgodkamaa
