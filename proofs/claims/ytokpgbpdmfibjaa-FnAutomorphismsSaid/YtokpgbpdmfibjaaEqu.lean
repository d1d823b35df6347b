/-
Contracts of both sides' AreEquivalent. Conditions: lengths at most 2000000.
-/
import Derived.Test.YtokpgbpdmfibjaaCan
namespace Go.Proofs.Ytokpgbpdmfibjaa
open Go.RowKit Go.ChangeShapes
set_option linter.unusedVariables false

noncomputable def eqR (os : List Int) (a b : Int) : Int := if caB os a = true ∧ caB os b = true then (if caR os a = caR os b then 1 else 0) else -1
theorem caR_bd (os : List Int) (a : Int) : 0 ≤ caR os a ∧ caR os a < 16777216 := by
  unfold caR
  split
  · rename_i h
    simp only [caB, Bool.and_eq_true] at h
    obtain ⟨hg, m, rfl, hm⟩ := setB_parts h.2
    obtain ⟨g2, g3, g4, g5, g6⟩ := grp_gn hg
    have h24 := Nat.pow_le_pow_right (n := 2) (by decide) g4
    have e : (2 : Nat) ^ 24 = 16777216 := by decide
    have := caI_lt (os := os) (F := autL os) (a := m) (by rw [g6] at hm; omega) (autL os).length
    simp only [Int.toNat_natCast]
    unfold caV
    omega
  · omega

set_option maxHeartbeats 1600000 in
theorem equ_impl (a0 : Option Addr) (c0 : Nat) (os : List Int) (a b : Int) (w : World) (h0 : Ints w a0 c0 os) (hl : os.length ≤ 2000000) :
    Calls Try.prog 22 #[.agg #[.slice a0 os.length c0], .int .i64 a, .int .i64 b] w fun e w' => e = .returned (.int .i64 (eqR os a b)) ∧ Below w.heap.size w w' := by
  have hb0 := (Below.refl w.heap.size w).alloc (Nat.le_refl _) (.cells #[.slice a0 os.length c0] 26)
  have h1 := h0.below hb0 (Nat.le_refl _)
  have C1 := Lib.hid (fun w h => can_impl a0 c0 os a w h hl)
  have C2 := Lib.hid (fun w h => can_impl a0 c0 os b w h hl)
  have hr : ∃ x p y q, x = caR os a ∧ p = caB os a ∧ y = caR os b ∧ q = caB os b := ⟨_, _, _, _, rfl, rfl, rfl, rfl⟩
  obtain ⟨x, p, y, q, hx, hp, hy, hq⟩ := hr
  have he : eqR os a b = if p = true ∧ q = true then (if x = y then 1 else 0) else -1 := by rw [hx, hp, hy, hq]; rfl
  rw [he]
  rw [← hx, ← hp] at C1
  rw [← hy, ← hq] at C2
  clear hx hp hy hq he
  cases p with
  | false =>
    rw [if_neg (by simp)]
    go_enter Try.func22, Try.ntmps22
    go_wp2_with fail
    refine (C1.out _ h1).mono ?_; rintro e w1 ⟨rfl, b1⟩
    have q1 := box_cell b1 (by simp)
    have h2 := h1.below b1 (Nat.le_refl _)
    have hb1 := nx hb0 b1
    clear b1
    go_wp2_with fail
    refine (C2.out _ h2).mono ?_; rintro e w2 ⟨rfl, b2⟩
    have hb2 := nx hb1 b2
    clear b2
    go_wp2_with fail
    go_ret
    exact ⟨rfl, hb2⟩
  | true =>
    cases q with
    | false =>
      rw [if_neg (by simp)]
      go_enter Try.func22, Try.ntmps22
      go_wp2_with fail
      refine (C1.out _ h1).mono ?_; rintro e w1 ⟨rfl, b1⟩
      have q1 := box_cell b1 (by simp)
      have h2 := h1.below b1 (Nat.le_refl _)
      have hb1 := nx hb0 b1
      clear b1
      go_wp2_with fail
      refine (C2.out _ h2).mono ?_; rintro e w2 ⟨rfl, b2⟩
      have hb2 := nx hb1 b2
      clear b2
      go_wp2_with fail
      go_ret
      exact ⟨rfl, hb2⟩
    | true =>
      rw [if_pos ⟨rfl, rfl⟩]
      by_cases hxy : x = y
      · subst hxy
        rw [if_pos rfl]
        go_enter Try.func22, Try.ntmps22
        go_wp2_with fail
        refine (C1.out _ h1).mono ?_; rintro e w1 ⟨rfl, b1⟩
        have q1 := box_cell b1 (by simp)
        have h2 := h1.below b1 (Nat.le_refl _)
        have hb1 := nx hb0 b1
        clear b1
        go_wp2_with fail
        refine (C2.out _ h2).mono ?_; rintro e w2 ⟨rfl, b2⟩
        have hb2 := nx hb1 b2
        clear b2
        go_wp2_with fail
        go_ret
        exact ⟨rfl, hb2⟩
      · rw [if_neg hxy]
        have hbq : (x == y) = false := by simpa using hxy
        go_enter Try.func22, Try.ntmps22
        go_wp2_with fail
        refine (C1.out _ h1).mono ?_; rintro e w1 ⟨rfl, b1⟩
        have q1 := box_cell b1 (by simp)
        have h2 := h1.below b1 (Nat.le_refl _)
        have hb1 := nx hb0 b1
        clear b1
        go_wp2_with fail
        refine (C2.out _ h2).mono ?_; rintro e w2 ⟨rfl, b2⟩
        have hb2 := nx hb1 b2
        clear b2
        go_wp2_with fail
        go_ret
        exact ⟨rfl, hb2⟩

set_option maxHeartbeats 1600000 in
theorem equ_spec (a0 : Option Addr) (c0 : Nat) (os : List Int) (a b : Int) (w : World) (h0 : Ints w a0 c0 os) (hl : os.length ≤ 2000000) :
    Calls Try.prog 29 #[.agg #[.slice a0 os.length c0], .int .i64 a, .int .i64 b] w fun e w' => e = .returned (.int .i64 (eqR os a b)) ∧ Below w.heap.size w w' := by
  have hb0 := (Below.refl w.heap.size w).alloc (Nat.le_refl _) (.cells #[.slice a0 os.length c0] 26)
  have h1 := h0.below hb0 (Nat.le_refl _)
  have C1 := Lib.hid (fun w h => can_spec a0 c0 os a w h hl)
  have C2 := Lib.hid (fun w h => can_spec a0 c0 os b w h hl)
  have hr : ∃ x p y q, x = caR os a ∧ p = caB os a ∧ y = caR os b ∧ q = caB os b := ⟨_, _, _, _, rfl, rfl, rfl, rfl⟩
  obtain ⟨x, p, y, q, hx, hp, hy, hq⟩ := hr
  have he : eqR os a b = if p = true ∧ q = true then (if x = y then 1 else 0) else -1 := by rw [hx, hp, hy, hq]; rfl
  rw [he]
  rw [← hx, ← hp] at C1
  rw [← hy, ← hq] at C2
  clear hx hp hy hq he
  cases p with
  | false =>
    rw [if_neg (by simp)]
    go_enter Try.func29, Try.ntmps29
    go_wp2_with fail
    refine (C1.out _ h1).mono ?_; rintro e w1 ⟨rfl, b1⟩
    have q1 := box_cell b1 (by simp)
    have h2 := h1.below b1 (Nat.le_refl _)
    have hb1 := nx hb0 b1
    clear b1
    go_wp2_with fail
    refine (C2.out _ h2).mono ?_; rintro e w2 ⟨rfl, b2⟩
    have hb2 := nx hb1 b2
    clear b2
    go_wp2_with fail
    go_ret
    exact ⟨rfl, hb2⟩
  | true =>
    cases q with
    | false =>
      rw [if_neg (by simp)]
      go_enter Try.func29, Try.ntmps29
      go_wp2_with fail
      refine (C1.out _ h1).mono ?_; rintro e w1 ⟨rfl, b1⟩
      have q1 := box_cell b1 (by simp)
      have h2 := h1.below b1 (Nat.le_refl _)
      have hb1 := nx hb0 b1
      clear b1
      go_wp2_with fail
      refine (C2.out _ h2).mono ?_; rintro e w2 ⟨rfl, b2⟩
      have hb2 := nx hb1 b2
      clear b2
      go_wp2_with fail
      go_ret
      exact ⟨rfl, hb2⟩
    | true =>
      rw [if_pos ⟨rfl, rfl⟩]
      by_cases hxy : x = y
      · subst hxy
        rw [if_pos rfl]
        go_enter Try.func29, Try.ntmps29
        go_wp2_with fail
        refine (C1.out _ h1).mono ?_; rintro e w1 ⟨rfl, b1⟩
        have q1 := box_cell b1 (by simp)
        have h2 := h1.below b1 (Nat.le_refl _)
        have hb1 := nx hb0 b1
        clear b1
        go_wp2_with fail
        refine (C2.out _ h2).mono ?_; rintro e w2 ⟨rfl, b2⟩
        have hb2 := nx hb1 b2
        clear b2
        go_wp2_with fail
        go_ret
        exact ⟨rfl, hb2⟩
      · rw [if_neg hxy]
        have hbq : (x == y) = false := by simpa using hxy
        go_enter Try.func29, Try.ntmps29
        go_wp2_with fail
        refine (C1.out _ h1).mono ?_; rintro e w1 ⟨rfl, b1⟩
        have q1 := box_cell b1 (by simp)
        have h2 := h1.below b1 (Nat.le_refl _)
        have hb1 := nx hb0 b1
        clear b1
        go_wp2_with fail
        refine (C2.out _ h2).mono ?_; rintro e w2 ⟨rfl, b2⟩
        have hb2 := nx hb1 b2
        clear b2
        go_wp2_with fail
        go_ret
        exact ⟨rfl, hb2⟩
end Go.Proofs.Ytokpgbpdmfibjaa
