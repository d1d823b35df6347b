/-
The program's IsCompleteSumFree returns what the reference's returns, for all arguments. No condition.
-/
import Derived.Test.YtglkeljpndhneaaCsf
import Derived.Deep.RegionHeld3
namespace Go.Proofs.Ytglkeljpndhneaa
open Go.ChangeShapes Go.RowKit

set_option maxHeartbeats 1600000 in
theorem walk_fnExactIsCompleteSumFree (a0 : Option Addr) (c0 : Nat) (xs : List Int) (a : Int) (w : World) (h0 : Ints w a0 c0 xs) (_ : (Lit.int .i64 a).wf = true) :
    Calls Try.prog 6 #[.agg #[.slice a0 xs.length c0], .int .i64 a] w fun e w' => e = .returned (.bool true) ∧ Below w.heap.size w w' := by
  have hb0 := (Below.refl w.heap.size w).alloc (Nat.le_refl _) (.cells #[.slice a0 xs.length c0] 24)
  have h1 := h0.below hb0 (Nat.le_refl _)
  have hmx : xs.length ≤ 9223372036854775807 := by have := h0.1; have := h0.2.1; unfold maxLen at this; omega
  by_cases hbig : (xs.length : Int) ≤ 1048576
  · have hl : xs.length ≤ 2000000 := by omega
    have CS := Lib.hid (szGroup_any a0 c0 xs.length 1048576 · (by omega) (by omega) hmx)
    simp only [if_pos hbig] at CS
    have C1 := Lib.hid (fun a' c w h => csf_spec a' c xs a w h hl)
    have C2 := Lib.hid (fun a' c w h => csf_impl a' c xs a w h hl)
    obtain ⟨r, hr⟩ : ∃ r, r = csfB xs a := ⟨_, rfl⟩
    rw [← hr] at C1 C2
    clear hr
    go_enter Try.func6, Try.ntmps6
    go_wp2_with fail
    refine (CS.out _).mono ?_; rintro e w1 ⟨rfl, b1⟩
    have q1 := box_cell b1 (by simp)
    have h2 := h1.below b1 (Nat.le_refl _)
    have B1 := nx hb0 b1
    go_wp2_with fail
    refine (toGroup_any a0 c0 xs _ h2 hl).mono ?_; rintro e w2 ⟨a2, c2, rfl, o2, b2⟩
    have z1 : w.heap.size < w1.heap.size := by have := b1.size; simp at this; omega
    have q2 := (b2.cell (p := ⟨w.heap.size, 0, none⟩) z1).trans q1
    have h3 := h2.below b2 (Nat.le_refl _)
    have B2 := nx B1 b2
    go_wp2_with fail
    refine (C1.out _ _ _ o2.ints).mono ?_; rintro e w3 ⟨rfl, b3⟩
    have z2 : w.heap.size < w2.heap.size := by have := b2.size; omega
    have q3 := (b3.cell (p := ⟨w.heap.size, 0, none⟩) z2).trans q2
    have h4 := h3.below b3 (Nat.le_refl _)
    have B3 := nx B2 b3
    clear q1 q2 h2 h3
    go_wp2_with fail
    refine (toGroup_any a0 c0 xs _ h4 hl).mono ?_; rintro e w4 ⟨a4, c4, rfl, o4, b4⟩
    have z3 : w.heap.size < w3.heap.size := by have := b3.size; omega
    have q4 := (b4.cell (p := ⟨w.heap.size, 0, none⟩) z3).trans q3
    have z4 : w.heap.size < w4.heap.size := by have := b4.size; omega
    have h5 := h4.below b4 (Nat.le_refl _)
    have B4 := nx B3 b4
    clear q3 h4
    have r1 := (Below.refl w4.heap.size w4).alloc (Nat.le_refl _) (.cells #[.slice a4 xs.length c4] 27)
    have q5 := (r1.cell (p := ⟨w.heap.size, 0, none⟩) z4).trans q4
    have h6 := h5.below r1 (Nat.le_refl _)
    have o5 := o4.below r1 (Nat.le_refl _)
    have B5 := nx B4 r1
    clear h5 q4
    go_wp2_with fail
    refine (C2.out _ _ _ ?hints).mono ?_
    case hints => exact o5.ints
    rintro e w5 ⟨rfl, b5⟩
    have sz5 : w4.heap.size < w5.heap.size := by have := b5.size; simp at this; omega
    have q6 : w5.cell? ⟨w.heap.size, 0, none⟩ = some (.slice a0 xs.length c0) := (b5.cell (p := ⟨w.heap.size, 0, none⟩) (by simp; omega)).trans q5
    have q7 : w5.cell? ⟨w4.heap.size, 0, none⟩ = some (.slice a4 xs.length c4) := by rw [b5.cell (p := ⟨w4.heap.size, 0, none⟩) (by simp)]; simp [go_sem]
    have h7 := h6.below b5 (Nat.le_refl _)
    have o6 := o5.below b5 (Nat.le_refl _)
    have B6 := nx B5 b5
    clear h6 o5 q5 r1 b5 z1 z2 z3 b1 b2 b3 b4 o2 o4 B1 B2 B3 B4 B5 hb0 h1 h0
    go_wp2_with fail
    go_region_held3 (fun w' => w'.cell? ⟨w.heap.size, 0, none⟩ = some (.slice a0 xs.length c0) ∧ w'.cell? ⟨w4.heap.size, 0, none⟩ = some (.slice a4 xs.length c4)) (exact ⟨by assumption, by assumption⟩) (first
      | (go_at_call 17; refine (toGroup_any a0 c0 xs _ h7.drew hl).mono ?_; rintro e w6 ⟨a6, c6, rfl, o7, b6⟩; have q8 := (b6.cell (p := ⟨w.heap.size, 0, none⟩) (by show w.heap.size < w5.heap.size; omega)).trans q6; have q9 := (b6.cell (p := ⟨w4.heap.size, 0, none⟩) sz5).trans q7)
      | (go_at_call 19; refine (eqGroup_refl a4 a6 c4 c6 xs _ (o6.ints.below (below_undrew b6) (Nat.le_refl _)) o7.ints hl).mono ?_; rintro e w7 ⟨rfl, b7⟩; have q10 := (b7.cell (p := ⟨w.heap.size, 0, none⟩) (Nat.lt_of_lt_of_le (show w.heap.size < w5.heap.size by omega) b6.size)).trans q8; have q11 := (b7.cell (p := ⟨w4.heap.size, 0, none⟩) (Nat.lt_of_lt_of_le sz5 b6.size)).trans q9))
    go_wp2_with fail
    go_ret
    exact ⟨rfl, nx (nx B6 (below_undrew b6)) b7⟩
  · have CS := Lib.hid (szGroup_any a0 c0 xs.length 1048576 · (by omega) (by omega) hmx)
    simp only [if_neg hbig] at CS
    go_enter Try.func6, Try.ntmps6
    go_wp2_with fail
    refine (CS.out _).mono ?_; rintro e w1 ⟨rfl, b1⟩
    go_wp2_with fail
    go_ret
    exact ⟨rfl, nx hb0 b1⟩


end Go.Proofs.Ytglkeljpndhneaa
