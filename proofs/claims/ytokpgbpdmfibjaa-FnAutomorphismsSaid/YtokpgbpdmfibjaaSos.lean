/-
Contract of the reference's SumOfSets. Conditions: at most 2000000 orders.
-/
import Derived.Test.YtokpgbpdmfibjaaAlg
namespace Go.Proofs.Ytokpgbpdmfibjaa
open Go.RowKit Go.ChangeShapes
set_option linter.unusedVariables false

theorem setB_bd {os : List Int} {a : Int} (h : setB os a = true) : ∃ m : Nat, a = (m : Int) ∧ m < setT os ∧ m < 16777216 ∧ grpB os = true ∧ m < 2 ^ gn os ∧ gn os ≤ 24 := by
  obtain ⟨hg, m, rfl, hm⟩ := setB_parts h
  have hT := setT_bd hg
  obtain ⟨g2, g3, g4, g5, g6⟩ := grp_gn hg
  exact ⟨m, rfl, hm, by omega, hg, hm, g4⟩
/-- What SumOfSets returns. -/
def sosV (os : List Int) (a b : Int) : Int := if setB os a = true ∧ setB os b = true then (sumS os b.toNat a.toNat : Int) else -1
theorem sosV_of {os : List Int} {a b : Nat} (ha : setB os (a : Int) = true) (hb : setB os (b : Int) = true) : sosV os (a : Int) (b : Int) = (sumS os a b : Int) := by
  obtain ⟨m, h1, h2, h3, hg, h4, h5⟩ := setB_bd ha
  obtain ⟨k, h6, h7, h8, _, h9, h10⟩ := setB_bd hb
  unfold sosV
  rw [if_pos ⟨ha, hb⟩, Int.toNat_natCast, Int.toNat_natCast, sumS_comm]
set_option maxHeartbeats 1600000 in
theorem sos_spec (a0 : Option Addr) (c0 : Nat) (os : List Int) (a b : Int) (w : World) (h0 : Ints w a0 c0 os) (hl : os.length ≤ 2000000) :
    Calls Try.prog 18 #[.agg #[.slice a0 os.length c0], .int .i64 a, .int .i64 b] w fun e w' => e = .returned (.int .i64 (sosV os a b)) ∧ Below w.heap.size w w' := by
  have hb0 := (Below.refl w.heap.size w).alloc (Nat.le_refl _) (.cells #[.slice a0 os.length c0] 26)
  have h1 := h0.below hb0 (Nat.le_refl _)
  have CA := Lib.hid (fun w h => isSet_spec a0 c0 os a w h hl)
  have CB := Lib.hid (fun w h => isSet_spec a0 c0 os b w h hl)
  cases hsa : setB os a with
  | false =>
    rw [hsa] at CA
    have e : sosV os a b = -1 := by simp [sosV, hsa]
    rw [e]
    clear hsa e
    go_enter Try.func18, Try.ntmps18
    go_wp2_with fail
    refine (CA.out _ h1).mono ?_; rintro e w1 ⟨rfl, b1⟩
    go_wp2_with fail
    go_ret
    exact ⟨rfl, nx hb0 b1⟩
  | true =>
    rw [hsa] at CA
    cases hsb : setB os b with
    | false =>
      rw [hsb] at CB
      have e : sosV os a b = -1 := by simp [sosV, hsb]
      rw [e]
      clear hsa hsb e
      go_enter Try.func18, Try.ntmps18
      go_wp2_with fail
      refine (CA.out _ h1).mono ?_; rintro e w1 ⟨rfl, b1⟩
      have q1 := box_cell b1 (by simp)
      have h2 := h1.below b1 (Nat.le_refl _)
      have hb1 := nx hb0 b1
      clear b1 hb0 h1
      go_wp2_with fail
      refine (CB.out _ h2).mono ?_; rintro e w2 ⟨rfl, b2⟩
      go_wp2_with fail
      go_ret
      exact ⟨rfl, nx hb1 b2⟩
    | true =>
      rw [hsb] at CB
      have e : sosV os a b = (sumS os b.toNat a.toNat : Int) := by simp [sosV, hsa, hsb]
      rw [e]
      obtain ⟨m, rfl, -, k1, hg, -, -⟩ := setB_bd hsa
      obtain ⟨k, rfl, -, k2, -, -, -⟩ := setB_bd hsb
      simp only [Int.toNat_natCast]
      have CS := Lib.hid (fun w h => l4Sum_any a0 c0 os m k w h hg (by omega) (by omega))
      obtain ⟨r, hr⟩ : ∃ r, r = sumS os k m := ⟨_, rfl⟩
      rw [← hr] at CS ⊢
      clear hsa hsb e hr hg k1 k2
      go_enter Try.func18, Try.ntmps18
      go_wp2_with fail
      refine (CA.out _ h1).mono ?_; rintro e w1 ⟨rfl, b1⟩
      have q1' := box_cell b1 (by simp)
      have z1' : w.heap.size < w1.heap.size := by have := b1.size; simp at this; omega
      have h2' := h1.below b1 (Nat.le_refl _)
      have hb1' := nx hb0 b1
      clear b1 hb0 h1
      go_wp2_with fail
      refine (CB.out _ h2').mono ?_; rintro e w2 ⟨rfl, b2⟩
      have q2 := (b2.cell (p := ⟨w.heap.size, 0, none⟩) z1').trans q1'
      have h3 := h2'.below b2 (Nat.le_refl _)
      have hb2 := nx hb1' b2
      clear b2 q1' z1' h2' hb1'
      go_wp2_with fail
      refine (CS.out _ h3).mono ?_; rintro e w3 ⟨rfl, b3⟩
      go_wp2_with fail
      go_ret
      exact ⟨rfl, nx hb2 b3⟩
end Go.Proofs.Ytokpgbpdmfibjaa
