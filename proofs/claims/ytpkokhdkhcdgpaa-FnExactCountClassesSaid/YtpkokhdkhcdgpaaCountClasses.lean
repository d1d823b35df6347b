/-
The program's CountClasses returns what the reference's returns, for all arguments. No condition.
-/
import Derived.Test.YtpkokhdkhcdgpaaCcl
import Derived.Deep.RegionHeld3
namespace Go.Proofs.Ytpkokhdkhcdgpaa
open Go.ChangeShapes Go.RowKit

set_option maxRecDepth 20000 in
set_option maxHeartbeats 1600000 in
theorem walk_fnExactCountClasses (axs : Option Addr) (cxs : Nat) (xs : List Int) (n : Int) (w : World) (hxs : Ints w axs cxs xs) (_ : (Lit.int .i64 n).wf = true) :
    Calls Try.prog 12 #[.agg #[.slice axs xs.length cxs], .int .i64 n] w fun e w' => e = .returned (.bool true) ∧ Below w.heap.size w w' := by
  have hmxs : xs.length ≤ 9223372036854775807 := by have := hxs.1; have := hxs.2.1; unfold maxLen at this; omega
  have hb0 := (Below.refl w.heap.size w).alloc (Nat.le_refl _) (.cells #[.slice axs xs.length cxs] 24)
  by_cases hbig : (xs.length : Int) ≤ 1048576
  · have hlxs : xs.length ≤ 2000000 := by omega
    have CS := Lib.hid (szGroup_any axs cxs xs.length 1048576 · (by omega) (by omega) hmxs)
    simp only [if_pos hbig] at CS
    have C1 := Lib.hid (fun axs' cxs' w hxs' => ccl_spec axs' cxs' xs n w hxs' hlxs)
    have C2 := Lib.hid (fun axs' cxs' w hxs' => ccl_impl axs' cxs' xs n w hxs' hlxs)
    obtain ⟨r, hr⟩ : ∃ r, r = ccR xs n := ⟨_, rfl⟩
    rw [← hr] at C1 C2
    clear hr
    go_enter Try.func12, Try.ntmps12
    have kxs := hxs.below hb0 (Nat.le_refl _)
    go_wp2_with fail
    refine (CS.out _).mono ?_
    rintro e w1 ⟨rfl, b_1⟩
    have q_0 := box_cell b_1 (by simp)
    have z_0 : w.heap.size < w1.heap.size := by have := b_1.size; simp at this; omega
    have h_2 := kxs.below b_1 (Nat.le_refl _)
    have B_3 := nx hb0 b_1
    clear kxs hb0 b_1
    clear hxs
    go_wp2_with fail
    refine (toGroup_any axs cxs xs _ h_2 hlxs).mono ?_
    rintro e w2 ⟨a_4, c_5, rfl, o_6, b_7⟩
    have h_8 := h_2.below b_7 (Nat.le_refl _)
    have q_9 := (b_7.cell (p := ⟨w.heap.size, 0, none⟩) z_0).trans q_0
    have z_10 : w.heap.size < w2.heap.size := Nat.lt_of_lt_of_le z_0 b_7.size
    have B_11 := nx B_3 b_7
    clear h_2 q_0 z_0 B_3 b_7
    go_wp2_with fail
    refine (C1.out _ _ _ ?hixs).mono ?_
    case hixs => exact o_6.ints
    rintro e w3 ⟨rfl, b_12⟩
    have h_13 := h_8.below b_12 (Nat.le_refl _)
    have q_14 := (b_12.cell (p := ⟨w.heap.size, 0, none⟩) z_10).trans q_9
    have z_15 : w.heap.size < w3.heap.size := Nat.lt_of_lt_of_le z_10 b_12.size
    have B_16 := nx B_11 b_12
    clear h_8 q_9 z_10 B_11 b_12
    go_wp2_with fail
    refine (toGroup_any axs cxs xs _ h_13 hlxs).mono ?_
    rintro e w4 ⟨a_17, c_18, rfl, o_19, b_20⟩
    have h_21 := h_13.below b_20 (Nat.le_refl _)
    have q_22 := (b_20.cell (p := ⟨w.heap.size, 0, none⟩) z_15).trans q_14
    have z_23 : w.heap.size < w4.heap.size := Nat.lt_of_lt_of_le z_15 b_20.size
    have B_24 := nx B_16 b_20
    clear h_13 q_14 z_15 B_16 b_20
    have r_25 := (Below.refl w4.heap.size w4).alloc (Nat.le_refl _) (.cells #[.slice a_17 xs.length c_18] 27)
    have h_26 := h_21.below r_25 (Nat.le_refl _)
    have h_27 := o_19.below r_25 (Nat.le_refl _)
    have q_28 := (r_25.cell (p := ⟨w.heap.size, 0, none⟩) z_23).trans q_22
    have z_29 : w.heap.size < (w4.alloc (.cells #[.slice a_17 xs.length c_18] 27)).heap.size := Nat.lt_of_lt_of_le z_23 r_25.size
    have B_30 := nx B_24 r_25
    clear h_21 o_19 q_22 z_23 B_24 r_25
    have q_31 : (w4.alloc (.cells #[.slice a_17 xs.length c_18] 27)).cell? ⟨w4.heap.size, 0, none⟩ = some (.slice a_17 xs.length c_18) := by simp [go_sem]
    have z_32 : w4.heap.size < (w4.alloc (.cells #[.slice a_17 xs.length c_18] 27)).heap.size := by simp
    go_wp2_with fail
    refine (C2.out _ _ _ ?hixs).mono ?_
    case hixs => exact h_27.ints
    rintro e w5 ⟨rfl, b_33⟩
    have h_34 := h_26.below b_33 (Nat.le_refl _)
    have h_35 := h_27.below b_33 (Nat.le_refl _)
    have q_36 := (b_33.cell (p := ⟨w.heap.size, 0, none⟩) z_29).trans q_28
    have z_37 : w.heap.size < w5.heap.size := Nat.lt_of_lt_of_le z_29 b_33.size
    have q_38 := (b_33.cell (p := ⟨w4.heap.size, 0, none⟩) z_32).trans q_31
    have z_39 : w4.heap.size < w5.heap.size := Nat.lt_of_lt_of_le z_32 b_33.size
    have B_40 := nx B_30 b_33
    clear h_26 h_27 q_28 z_29 q_31 z_32 B_30 b_33
    go_wp2_with fail
    go_region_held3 (fun w' => w'.cell? ⟨w.heap.size, 0, none⟩ = some (.slice axs xs.length cxs) ∧ w'.cell? ⟨w4.heap.size, 0, none⟩ = some (.slice a_17 xs.length c_18)) (exact ⟨by assumption, by assumption⟩) (first
      | (go_at_call 15; refine (toGroup_any axs cxs xs _ h_34.drew hlxs).mono ?_; rintro e w6 ⟨a_41, c_42, rfl, o_43, b_44⟩; have y1 := (b_44.cell (p := ⟨w.heap.size, 0, none⟩) z_37).trans q_36; have y2 := (b_44.cell (p := ⟨w4.heap.size, 0, none⟩) z_39).trans q_38)
      | (go_at_call 18; refine (eqGroup_refl a_17 a_41 c_18 c_42 xs _ (h_35.ints.below (below_undrew b_44) (Nat.le_refl _)) o_43.ints hlxs).mono ?_; rintro e w7 ⟨rfl, b_45⟩; have y3 := (b_45.cell (p := ⟨w.heap.size, 0, none⟩) (Nat.lt_of_lt_of_le z_37 b_44.size)).trans y1; have y4 := (b_45.cell (p := ⟨w4.heap.size, 0, none⟩) (Nat.lt_of_lt_of_le z_39 b_44.size)).trans y2))
    have bb_u := below_undrew b_44
    have B_46 := nx B_40 bb_u
    clear B_40
    have B_47 := nx B_46 b_45
    clear B_46 b_45
    go_wp2_with fail
    go_ret
    exact ⟨rfl, B_47⟩
  · have CS := Lib.hid (szGroup_any axs cxs xs.length 1048576 · (by omega) (by omega) hmxs)
    simp only [if_neg hbig] at CS
    go_enter Try.func12, Try.ntmps12
    go_wp2_with fail
    refine (CS.out _).mono ?_; rintro e w1 ⟨rfl, b1⟩
    go_wp2_with fail
    go_ret
    exact ⟨rfl, nx hb0 b1⟩


end Go.Proofs.Ytpkokhdkhcdgpaa
