/-
What the law of automorphisms asks, in one statement: plain. Conditions: a group of order at most 9 with an automorphism.
-/
import Derived.Test.YtokpgbpdmfibjaaStb
import Derived.Test.YtokpgbpdmfibjaaEqu
import Derived.Test.YtokpgbpdmfibjaaSos
namespace Go.Proofs.Ytokpgbpdmfibjaa
open Go.RowKit Go.ChangeShapes
set_option linter.unusedVariables false

theorem setB_nat {os : List Int} (hg : grpB os = true) {a : Nat} (h : a < 2 ^ gn os) : setB os (a : Int) = true := by
  obtain ⟨g2, g3, g4, g5, g6⟩ := grp_gn hg
  unfold setB
  rw [hg, g6]
  simp only [Bool.true_and, Bool.and_eq_true, decide_eq_true_eq]
  exact ⟨by omega, by exact_mod_cast h⟩
theorem imgV_of {os f : List Int} (h : autB os f = true) {a : Nat} (ha : a < 2 ^ gn os) : imgV os f (a : Int) = (imS f a : Int) := by
  obtain ⟨hg, -⟩ := aut_parts h
  unfold imgV
  rw [if_pos ⟨h, setB_nat hg ha⟩, Int.toNat_natCast]
theorem aut_law {os f : List Int} (hat : atB os = true) (hf : autB os f = true) {A B : Nat} (ha : A < 2 ^ gn os) (hb : B < 2 ^ gn os) :
    ∃ X Y S P Q R C : Nat, imgV os f (A : Int) = (X : Int) ∧ imgV os f (B : Int) = (Y : Int) ∧ sosV os (A : Int) (B : Int) = (S : Int) ∧ imgV os f (S : Int) = (P : Int) ∧ sosV os (X : Int) (Y : Int) = (P : Int) ∧
      staV os (X : Int) = (Q : Int) ∧ staV os (A : Int) = (R : Int) ∧ imgV os f (R : Int) = (Q : Int) ∧ caR os (A : Int) = (C : Int) ∧ caB os (A : Int) = true ∧ eqR os (A : Int) (X : Int) = 1 ∧
      ∀ z : Nat, z < gn os → ∃ T : Nat, shfV os (X : Int) (z : Int) = (T : Int) ∧ caR os (T : Int) = (C : Int) ∧ caB os (T : Int) = true := by
  obtain ⟨hg, -⟩ := aut_parts hf
  obtain ⟨g2, g3, g4, g5, g6⟩ := grp_gn hg
  have sA := setB_nat hg ha
  have sB := setB_nat hg hb
  have hX := imS_gn hf ha
  have hY := imS_gn hf hb
  have sX := setB_nat hg hX
  have sY := setB_nat hg hY
  have hS := sum_gn hg ha hb
  have hR := stS_lt os A (gn os)
  have ca : ∀ {a : Nat}, a < 2 ^ gn os → caB os (a : Int) = true ∧ caR os (a : Int) = (caV os a : Int) := by
    intro a h
    have h1 : caB os (a : Int) = true := by unfold caB; rw [hat, setB_nat hg h]; rfl
    exact ⟨h1, by unfold caR; rw [if_pos h1, Int.toNat_natCast]⟩
  have st : ∀ {a : Nat}, a < 2 ^ gn os → staV os (a : Int) = (stS os a (gn os) : Int) := by
    intro a h
    unfold staV
    rw [if_pos (setB_nat hg h), Int.toNat_natCast]
  refine ⟨imS f A, imS f B, sumS os A B, imS f (sumS os A B), stS os (imS f A) (gn os), stS os A (gn os), caV os A, imgV_of hf ha, imgV_of hf hb, sosV_of sA sB, imgV_of hf hS, ?_, st hX, st ha, ?_, (ca ha).2, (ca ha).1, ?_, fun z hz => ?_⟩
  · rw [sosV_of sX sY, imS_sum hf ha hb]
  · rw [imgV_of hf hR, imS_stab hf ha]
  · unfold eqR
    rw [if_pos ⟨(ca ha).1, (ca hX).1⟩, (ca ha).2, (ca hX).2, caV_image hf ha, if_pos rfl]
  · have hT : orL (gadd os z) (mems (imS f A)) < 2 ^ gn os := orL_gn (lt_64 g4 hX) (fun x _ => gadd_lt' g2 _ _)
    refine ⟨orL (gadd os z) (mems (imS f A)), ?_, ?_, (ca hT).1⟩
    · unfold shfV
      rw [if_pos ⟨sX, by omega, by rw [ordN_grp hg]; exact_mod_cast hz⟩, Int.toNat_natCast, Int.toNat_natCast]
    · rw [(ca hT).2, caV_shift hf ha hz]
end Go.Proofs.Ytokpgbpdmfibjaa
