/-
Plain laws of FnApFree: what the searches hand back has no progressions, is not empty, and is at least as long as the numbers without the digit 2. No condition.
-/
import Derived.Test.YtbidkjhgodkamaaCnp
import Derived.Test.YtbidkjhgodkamaaApf
import Derived.Test.YtbidkjhgodkamaaLongestFreeList
import Derived.Test.YtbidkjhgodkamaaBeh
namespace Go.Proofs.Ytbidkjhgodkamaa
open Go.RowKit Go.ChangeShapes
set_option linter.unusedVariables false

theorem apP_pre {l m : List Int} (h : apP (l ++ m)) : apP l := by
  obtain ⟨h1, h2, h3⟩ := h
  have g : ∀ i, i < l.length → (l ++ m).getD i 0 = l.getD i 0 := fun i hi => by simp [List.getD, List.getElem?_append_left hi]
  refine ⟨by simp at h1; omega, ?_, ?_⟩
  · intro i hi
    have := h2 i (by simp; omega)
    unfold OkAt at *
    rw [g i hi] at this
    refine ⟨this.1, fun h0 => ?_⟩
    have := this.2 h0
    rwa [g (i - 1) (by omega)] at this
  · intro i k j h4 h5 h6
    have := h3 i k j h4 h5 (by simp; omega)
    unfold NoMid at *
    rwa [g i (by omega), g j h6, g k (by omega)] at this
theorem apB_pre {l m : List Int} (h : apB (l ++ m) = true) : apB l = true := by
  simp only [apB, decide_eq_true_eq] at *
  exact apP_pre h
theorem upd_ge (b y : List Int) : b.length ≤ (upd b y).length ∧ y.length ≤ (upd b y).length := by
  unfold upd; split <;> omega
theorem lfGo_P (n : Nat) : ∀ d l b, apB b = true → apB (lfGo n d l b) = true
  | 0, _, _, h => h
  | d + 1, l, b, h => by
    unfold lfGo
    apply lfGo_P n d l
    split
    · rename_i h1
      unfold upd
      split
      · exact lfGo_P n d _ _ h1
      · exact h
    · exact h
theorem lfGo_ge (n : Nat) : ∀ d l b, b.length ≤ (lfGo n d l b).length
  | 0, _, _ => Nat.le_refl _
  | d + 1, l, b => by
    unfold lfGo
    refine Nat.le_trans ?_ (lfGo_ge n d l _)
    split
    · exact (upd_ge _ _).1
    · exact Nat.le_refl _
theorem lfGo_ext (n : Nat) : ∀ (d : Nat) (l b m : List Int), d ≤ n → l.length ≤ b.length → apB (l ++ m) = true → (∀ x ∈ m, ((n - d : Nat) : Int) ≤ x ∧ x < n) → m.Pairwise (· < ·) → (l ++ m).length ≤ (lfGo n d l b).length
  | d, l, b, [], _, hlb, _, _, _ => by
    rw [List.append_nil]
    exact Nat.le_trans hlb (lfGo_ge n d l b)
  | 0, l, b, x :: m, _, _, _, hm, _ => by
    have := hm x (List.mem_cons_self ..)
    omega
  | d + 1, l, b, x :: m, hd, hlb, hP, hm, hp => by
    obtain ⟨hp1, hp2⟩ := List.pairwise_cons.1 hp
    have hx := hm x (List.mem_cons_self ..)
    unfold lfGo
    by_cases e : x = ((n - (d + 1) : Nat) : Int)
    · have e2 : l ++ x :: m = (l ++ [x]) ++ m := by simp
      rw [e2] at hP ⊢
      have hP1 := apB_pre hP
      rw [← e, if_pos hP1]
      refine Nat.le_trans ?_ (lfGo_ge n d l _)
      refine Nat.le_trans ?_ (upd_ge _ _).2
      refine lfGo_ext n d (l ++ [x]) (l ++ [x]) m (by omega) (Nat.le_refl _) hP ?_ hp2
      intro y hy
      have := hp1 y hy
      have := (hm y (List.mem_cons_of_mem _ hy)).2
      omega
    · refine lfGo_ext n d l _ (x :: m) (by omega) ?_ hP ?_ hp
      · split
        · exact Nat.le_trans hlb (upd_ge _ _).1
        · exact hlb
      · intro y hy
        have h2 := hm y hy
        rcases List.mem_cons.1 hy with rfl | h
        · omega
        · have := hp1 y h
          omega

theorem behr_mem {n : Nat} {x : Int} (h : x ∈ behr n) : 0 ≤ x ∧ x < n := by
  simp only [behr, List.mem_map, List.mem_filter, List.mem_range] at h
  obtain ⟨i, ⟨h1, _⟩, rfl⟩ := h
  omega
theorem behr_lt (n : Nat) : (behr n).Pairwise (· < ·) := by
  unfold behr
  rw [List.pairwise_map]
  refine List.Pairwise.imp ?_ (List.Pairwise.filter _ List.pairwise_lt_range)
  intro i j h
  omega
theorem behr_app (n : Nat) : ∀ k, ∃ m, behr (n + k) = behr n ++ m
  | 0 => ⟨[], by simp⟩
  | k + 1 => by
    obtain ⟨m, h⟩ := behr_app n k
    rw [← Nat.add_assoc, behr_succ, h, List.append_assoc]
    exact ⟨_, rfl⟩
theorem behr_14 : behr 14 = [0, 1, 3, 4, 9, 10, 12, 13] := by
  simp [behr_succ, show behr 0 = [] from rfl, noTwo_pos, noTwo_zero]
theorem behr_ap {n : Nat} (h : n ≤ 14) : apB (behr n) = true := by
  obtain ⟨m, hm⟩ := behr_app n (14 - n)
  rw [show n + (14 - n) = 14 by omega, behr_14] at hm
  apply apB_pre (m := m)
  rw [← hm]
  apply apB_true
  refine ⟨by decide, ?_, ?_⟩
  · have : ∀ i, i < 8 → inB ([0, 1, 3, 4, 9, 10, 12, 13].getD i 0) 0 1000 = true ∧ (0 < i → ([0, 1, 3, 4, 9, 10, 12, 13] : List Int).getD (i - 1) 0 < [0, 1, 3, 4, 9, 10, 12, 13].getD i 0) := by decide
    exact this
  · have : ∀ j, j < 8 → ∀ k, k < j → ∀ i, i < k → ([0, 1, 3, 4, 9, 10, 12, 13] : List Int).getD i 0 + [0, 1, 3, 4, 9, 10, 12, 13].getD j 0 ≠ 2 * [0, 1, 3, 4, 9, 10, 12, 13].getD k 0 := by decide
    exact fun i k j h1 h2 h3 => this j h3 k h2 i h1
theorem lf_law {n : Int} (h : inB n 0 14 = true) : apB (lfL n) = true ∧ apB (behr n.toNat) = true ∧ (behr n.toNat).length ≤ (lfL n).length := by
  obtain ⟨h1, h2⟩ := inB_true.1 h
  obtain ⟨n, rfl⟩ := Int.eq_ofNat_of_zero_le h1
  have e : lfL (n : Int) = lfGo n n [] [] := by simp [lfL, h, lfR]
  rw [e, Int.toNat_natCast]
  have h0 : apB [] = true := apB_true ⟨by simp, by simp, by simp⟩
  have hb := behr_ap (n := n) (by omega)
  refine ⟨lfGo_P n n [] [] h0, hb, ?_⟩
  have := lfGo_ext n n [] [] (behr n) (Nat.le_refl _) (Nat.le_refl _) hb (fun x hx => by have := behr_mem hx; omega) (behr_lt n)
  simpa using this
theorem la_law {os : List Int} (h : bLargestApFree os = true) : (triV os (lvLargestApFree os : Int) == 0) = true ∧ ((lvLargestApFree os : Int) == 0) = false := by
  have hg : grpB os = true := by simp only [bLargestApFree, Bool.and_eq_true] at h; exact h.1
  have e : lvLargestApFree os = lgGo (apfB os) (gn os) (gn os) 0 0 := by unfold lvLargestApFree; rw [if_pos h]; rfl
  obtain ⟨g2, g3, g4, g5, g6⟩ := grp_gn hg
  have h1 := lgGo_lt (apfB os) (gn os) (gn os) 0 0 (by omega) (Nat.two_pow_pos _) (Nat.two_pow_pos _)
  have hP0 : apfB os 0 = true := by
    unfold apfB
    rw [show mems 0 = [] by decide]
    rfl
  have hP1 : apfB os (0 ||| 2 ^ 0) = true := by
    unfold apfB
    rw [show mems (0 ||| 2 ^ 0) = [0] by decide]
    rfl
  have h2 := lgGo_P (apfB os) (gn os) (gn os) 0 0 hP0
  have h3 := lgGo_one (apfB os) (gn os) (gn os) 0 0 0 (by omega) (by omega) (Nat.le_refl _) hP1
  rw [← e] at h1 h2 h3
  have hs : lvLargestApFree os < setT os := by rw [g6]; exact h1
  refine ⟨by rw [apfB_eq hg hs]; exact h2, ?_⟩
  rw [beq_eq_false_iff_ne]
  intro h0
  have h0' : lvLargestApFree os = 0 := by omega
  rw [h0'] at h3
  revert h3
  decide
end Go.Proofs.Ytbidkjhgodkamaa
