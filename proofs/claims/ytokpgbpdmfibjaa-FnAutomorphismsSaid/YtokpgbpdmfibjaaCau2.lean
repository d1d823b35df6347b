/-
Contracts of both sides' CountAutomorphisms. Conditions: lengths at most 2000000.
-/
import Derived.Test.YtokpgbpdmfibjaaExt7
namespace Go.Proofs.Ytokpgbpdmfibjaa
open Go.RowKit Go.ChangeShapes
set_option linter.unusedVariables false

noncomputable def catV (os : List Int) : Int := if atB os = true then ((atL os).length : Int) else -1
theorem atL_len (os : List Int) : (atL os).length ≤ 729 := by
  unfold atL
  split
  · rename_i h
    simp only [atB, Bool.and_eq_true, decide_eq_true_eq] at h
    exact autL_len (grp_parts h.1).1 h.2
  · simp

set_option maxHeartbeats 800000 in
theorem cat_impl (a0 : Option Addr) (c0 : Nat) (os : List Int) (w : World) (h0 : Ints w a0 c0 os) (hl : os.length ≤ 2000000) :
    Calls Try.prog 11 #[.agg #[.slice a0 os.length c0]] w fun e w' => e = .returned (.int .i64 (catV os)) ∧ Below w.heap.size w w' := by
  have hb0 := (Below.refl w.heap.size w).alloc (Nat.le_refl _) (.cells #[.slice a0 os.length c0] 26)
  have h1 := h0.below hb0 (Nat.le_refl _)
  have C := Lib.hid (fun w h => ats_impl a0 c0 os w h hl)
  have hL := atL_len os
  unfold catV
  obtain ⟨L, hL0⟩ : ∃ L, L = atL os := ⟨_, rfl⟩
  rw [← hL0] at C hL ⊢
  cases hb : atB os with
  | false =>
    rw [hb] at C
    rw [if_neg (by decide)]
    clear hb hL0
    go_enter Try.func11, Try.ntmps11
    go_wp2_with fail
    refine (C.out _ h1).mono ?_; rintro e w1 ⟨a, c, vs, rfl, o1, b1⟩
    go_wp2_with fail
    go_ret
    exact ⟨rfl, nx hb0 b1⟩
  | true =>
    rw [hb] at C
    rw [if_pos rfl]
    clear hb hL0
    go_enter Try.func11, Try.ntmps11
    go_wp2_with fail
    refine (C.out _ h1).mono ?_; rintro e w1 ⟨a, c, vs, rfl, o1, b1⟩
    go_wp2_with fail
    go_ret
    exact ⟨rfl, nx hb0 b1⟩

set_option maxHeartbeats 800000 in
theorem cat_spec (a0 : Option Addr) (c0 : Nat) (os : List Int) (w : World) (h0 : Ints w a0 c0 os) (hl : os.length ≤ 2000000) :
    Calls Try.prog 12 #[.agg #[.slice a0 os.length c0]] w fun e w' => e = .returned (.int .i64 (catV os)) ∧ Below w.heap.size w w' := by
  have hb0 := (Below.refl w.heap.size w).alloc (Nat.le_refl _) (.cells #[.slice a0 os.length c0] 26)
  have h1 := h0.below hb0 (Nat.le_refl _)
  have C := Lib.hid (fun w h => ats_spec a0 c0 os w h hl)
  have hL := atL_len os
  unfold catV
  obtain ⟨L, hL0⟩ : ∃ L, L = atL os := ⟨_, rfl⟩
  rw [← hL0] at C hL ⊢
  cases hb : atB os with
  | false =>
    rw [hb] at C
    rw [if_neg (by decide)]
    clear hb hL0
    go_enter Try.func12, Try.ntmps12
    go_wp2_with fail
    refine (C.out _ h1).mono ?_; rintro e w1 ⟨a, c, vs, rfl, o1, b1⟩
    go_wp2_with fail
    go_ret
    exact ⟨rfl, nx hb0 b1⟩
  | true =>
    rw [hb] at C
    rw [if_pos rfl]
    clear hb hL0
    go_enter Try.func12, Try.ntmps12
    go_wp2_with fail
    refine (C.out _ h1).mono ?_; rintro e w1 ⟨a, c, vs, rfl, o1, b1⟩
    go_wp2_with fail
    go_ret
    exact ⟨rfl, nx hb0 b1⟩
end Go.Proofs.Ytokpgbpdmfibjaa
