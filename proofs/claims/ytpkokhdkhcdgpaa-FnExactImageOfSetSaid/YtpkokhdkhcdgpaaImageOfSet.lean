/-
The program's ImageOfSet returns what the reference's returns, for all arguments. No condition.
-/
import Derived.Test.YtpkokhdkhcdgpaaImg
import Derived.Deep.RegionHeld3
namespace Go.Proofs.Ytpkokhdkhcdgpaa
open Go.ChangeShapes Go.RowKit

set_option maxRecDepth 20000 in
set_option maxHeartbeats 1600000 in
theorem walk_fnExactImageOfSet (axs : Option Addr) (cxs : Nat) (xs : List Int) (af : Option Addr) (cf : Nat) (f : List Int) (a : Int) (w : World) (hxs : Ints w axs cxs xs) (hf : Ints w af cf f) (_ : (Lit.int .i64 a).wf = true) :
    Calls Try.prog 3 #[.agg #[.slice axs xs.length cxs], .slice af f.length cf, .int .i64 a] w fun e w' => e = .returned (.bool true) ∧ Below w.heap.size w w' := by
  have hmxs : xs.length ≤ 9223372036854775807 := by have := hxs.1; have := hxs.2.1; unfold maxLen at this; omega
  have hmf : f.length ≤ 9223372036854775807 := by have := hf.1; have := hf.2.1; unfold maxLen at this; omega
  have hb0 := (Below.refl w.heap.size w).alloc (Nat.le_refl _) (.cells #[.slice axs xs.length cxs] 24)
  by_cases hbigf : (1048576 : Int) < f.length
  · clear hxs hf
    go_enter Try.func3, Try.ntmps3
    go_wp2_with fail
    go_ret
    exact ⟨rfl, hb0⟩
  · have hlf : f.length ≤ 2000000 := by omega
    by_cases hbig : (xs.length : Int) ≤ 1048576
    · have hlxs : xs.length ≤ 2000000 := by omega
      have CS := Lib.hid (szGroup_any axs cxs xs.length 1048576 · (by omega) (by omega) hmxs)
      simp only [if_pos hbig] at CS
      have C1 := Lib.hid (fun axs' cxs' af' cf' w hxs' hf' => img_spec axs' cxs' xs af' cf' f a w hxs' hf' hlxs hlf)
      have C2 := Lib.hid (fun axs' cxs' af' cf' w hxs' hf' => img_impl axs' cxs' xs af' cf' f a w hxs' hf' hlxs hlf)
      obtain ⟨r, hr⟩ : ∃ r, r = imgV xs f a := ⟨_, rfl⟩
      rw [← hr] at C1 C2
      clear hr
      go_enter Try.func3, Try.ntmps3
      have kxs := hxs.below hb0 (Nat.le_refl _)
      have kf := hf.below hb0 (Nat.le_refl _)
      go_wp2_with fail
      refine (CS.out _).mono ?_
      rintro e w1 ⟨rfl, b_1⟩
      have q_0 := box_cell b_1 (by simp)
      have z_0 : w.heap.size < w1.heap.size := by have := b_1.size; simp at this; omega
      have h_2 := kxs.below b_1 (Nat.le_refl _)
      have h_3 := kf.below b_1 (Nat.le_refl _)
      have B_4 := nx hb0 b_1
      clear kxs kf hb0 b_1
      clear hxs hf
      go_wp2_with fail
      refine (toGroup_any axs cxs xs _ h_2 hlxs).mono ?_
      rintro e w2 ⟨a_5, c_6, rfl, o_7, b_8⟩
      have h_9 := h_2.below b_8 (Nat.le_refl _)
      have h_10 := h_3.below b_8 (Nat.le_refl _)
      have q_11 := (b_8.cell (p := ⟨w.heap.size, 0, none⟩) z_0).trans q_0
      have z_12 : w.heap.size < w2.heap.size := Nat.lt_of_lt_of_le z_0 b_8.size
      have B_13 := nx B_4 b_8
      clear h_2 h_3 q_0 z_0 B_4 b_8
      go_wp2_with fail
      refine (toIntS_any af cf f _ h_10 hlf).mono ?_
      rintro e w3 ⟨a_14, c_15, rfl, o_16, b_17⟩
      have h_18 := h_9.below b_17 (Nat.le_refl _)
      have h_19 := h_10.below b_17 (Nat.le_refl _)
      have h_20 := o_7.below b_17 (Nat.le_refl _)
      have q_21 := (b_17.cell (p := ⟨w.heap.size, 0, none⟩) z_12).trans q_11
      have z_22 : w.heap.size < w3.heap.size := Nat.lt_of_lt_of_le z_12 b_17.size
      have B_23 := nx B_13 b_17
      clear h_9 h_10 o_7 q_11 z_12 B_13 b_17
      go_wp2_with fail
      refine (C1.out _ _ _ _ _ ?hixs ?hif).mono ?_
      case hixs => exact h_20.ints
      case hif => exact o_16.ints
      rintro e w4 ⟨rfl, b_24⟩
      have h_25 := h_18.below b_24 (Nat.le_refl _)
      have h_26 := h_19.below b_24 (Nat.le_refl _)
      have q_27 := (b_24.cell (p := ⟨w.heap.size, 0, none⟩) z_22).trans q_21
      have z_28 : w.heap.size < w4.heap.size := Nat.lt_of_lt_of_le z_22 b_24.size
      have B_29 := nx B_23 b_24
      clear h_18 h_19 q_21 z_22 B_23 b_24
      go_wp2_with fail
      refine (toGroup_any axs cxs xs _ h_25 hlxs).mono ?_
      rintro e w5 ⟨a_30, c_31, rfl, o_32, b_33⟩
      have h_34 := h_25.below b_33 (Nat.le_refl _)
      have h_35 := h_26.below b_33 (Nat.le_refl _)
      have q_36 := (b_33.cell (p := ⟨w.heap.size, 0, none⟩) z_28).trans q_27
      have z_37 : w.heap.size < w5.heap.size := Nat.lt_of_lt_of_le z_28 b_33.size
      have B_38 := nx B_29 b_33
      clear h_25 h_26 q_27 z_28 B_29 b_33
      have r_39 := (Below.refl w5.heap.size w5).alloc (Nat.le_refl _) (.cells #[.slice a_30 xs.length c_31] 27)
      have h_40 := h_34.below r_39 (Nat.le_refl _)
      have h_41 := h_35.below r_39 (Nat.le_refl _)
      have h_42 := o_32.below r_39 (Nat.le_refl _)
      have q_43 := (r_39.cell (p := ⟨w.heap.size, 0, none⟩) z_37).trans q_36
      have z_44 : w.heap.size < (w5.alloc (.cells #[.slice a_30 xs.length c_31] 27)).heap.size := Nat.lt_of_lt_of_le z_37 r_39.size
      have B_45 := nx B_38 r_39
      clear h_34 h_35 o_32 q_36 z_37 B_38 r_39
      have q_46 : (w5.alloc (.cells #[.slice a_30 xs.length c_31] 27)).cell? ⟨w5.heap.size, 0, none⟩ = some (.slice a_30 xs.length c_31) := by simp [go_sem]
      have z_47 : w5.heap.size < (w5.alloc (.cells #[.slice a_30 xs.length c_31] 27)).heap.size := by simp
      go_wp2_with fail
      refine (toIntS_any af cf f _ h_41 hlf).mono ?_
      rintro e w6 ⟨a_48, c_49, rfl, o_50, b_51⟩
      have h_52 := h_40.below b_51 (Nat.le_refl _)
      have h_53 := h_41.below b_51 (Nat.le_refl _)
      have h_54 := h_42.below b_51 (Nat.le_refl _)
      have q_55 := (b_51.cell (p := ⟨w.heap.size, 0, none⟩) z_44).trans q_43
      have z_56 : w.heap.size < w6.heap.size := Nat.lt_of_lt_of_le z_44 b_51.size
      have q_57 := (b_51.cell (p := ⟨w5.heap.size, 0, none⟩) z_47).trans q_46
      have z_58 : w5.heap.size < w6.heap.size := Nat.lt_of_lt_of_le z_47 b_51.size
      have B_59 := nx B_45 b_51
      clear h_40 h_41 h_42 q_43 z_44 q_46 z_47 B_45 b_51
      go_wp2_with fail
      refine (C2.out _ _ _ _ _ ?hixs ?hif).mono ?_
      case hixs => exact h_54.ints
      case hif => exact o_50.ints
      rintro e w7 ⟨rfl, b_60⟩
      have h_61 := h_52.below b_60 (Nat.le_refl _)
      have h_62 := h_53.below b_60 (Nat.le_refl _)
      have h_63 := h_54.below b_60 (Nat.le_refl _)
      have h_64 := o_50.below b_60 (Nat.le_refl _)
      have q_65 := (b_60.cell (p := ⟨w.heap.size, 0, none⟩) z_56).trans q_55
      have z_66 : w.heap.size < w7.heap.size := Nat.lt_of_lt_of_le z_56 b_60.size
      have q_67 := (b_60.cell (p := ⟨w5.heap.size, 0, none⟩) z_58).trans q_57
      have z_68 : w5.heap.size < w7.heap.size := Nat.lt_of_lt_of_le z_58 b_60.size
      have B_69 := nx B_59 b_60
      clear h_52 h_53 h_54 o_50 q_55 z_56 q_57 z_58 B_59 b_60
      go_wp2_with fail
      go_region_held3 (fun w' => w'.cell? ⟨w.heap.size, 0, none⟩ = some (.slice axs xs.length cxs) ∧ w'.cell? ⟨w5.heap.size, 0, none⟩ = some (.slice a_30 xs.length c_31)) (exact ⟨by assumption, by assumption⟩) (first
        | (go_at_call 15; refine (toGroup_any axs cxs xs _ h_61.drew hlxs).mono ?_; rintro e w8 ⟨a_70, c_71, rfl, o_72, b_73⟩; have y1 := (b_73.cell (p := ⟨w.heap.size, 0, none⟩) z_66).trans q_65; have y2 := (b_73.cell (p := ⟨w5.heap.size, 0, none⟩) z_68).trans q_67)
        | (go_at_call 18; refine (eqGroup_refl a_30 a_70 c_31 c_71 xs _ (h_63.ints.below (below_undrew b_73) (Nat.le_refl _)) o_72.ints hlxs).mono ?_; rintro e w9 ⟨rfl, b_74⟩; have y3 := (b_74.cell (p := ⟨w.heap.size, 0, none⟩) (Nat.lt_of_lt_of_le z_66 b_73.size)).trans y1; have y4 := (b_74.cell (p := ⟨w5.heap.size, 0, none⟩) (Nat.lt_of_lt_of_le z_68 b_73.size)).trans y2))
      have bb_u := below_undrew b_73
      have h_75 := h_62.below bb_u (Nat.le_refl _)
      have h_76 := h_64.below bb_u (Nat.le_refl _)
      have B_77 := nx B_69 bb_u
      clear h_62 h_64 B_69
      have h_78 := h_75.below b_74 (Nat.le_refl _)
      have h_79 := h_76.below b_74 (Nat.le_refl _)
      have B_80 := nx B_77 b_74
      clear h_75 h_76 B_77 b_74
      go_wp2_with fail
      refine (toIntS_any af cf f _ h_78 hlf).mono ?_
      rintro e w10 ⟨a_81, c_82, rfl, o_83, b_84⟩
      have h_85 := h_78.below b_84 (Nat.le_refl _)
      have h_86 := h_79.below b_84 (Nat.le_refl _)
      have B_87 := nx B_80 b_84
      clear h_78 h_79 B_80 b_84
      go_wp2_with fail
      refine (eqIntS_refl a_48 a_81 c_49 c_82 f _ h_86.ints o_83.ints hlf).mono ?_
      rintro e w11 ⟨rfl, b_88⟩
      have h_89 := h_85.below b_88 (Nat.le_refl _)
      have h_90 := h_86.below b_88 (Nat.le_refl _)
      have B_91 := nx B_87 b_88
      clear h_85 h_86 B_87 b_88
      go_wp2_with fail
      go_ret
      exact ⟨rfl, B_91⟩
    · have CS := Lib.hid (szGroup_any axs cxs xs.length 1048576 · (by omega) (by omega) hmxs)
      simp only [if_neg hbig] at CS
      go_enter Try.func3, Try.ntmps3
      go_wp2_with fail
      refine (CS.out _).mono ?_; rintro e w1 ⟨rfl, b1⟩
      go_wp2_with fail
      go_ret
      exact ⟨rfl, nx hb0 b1⟩


end Go.Proofs.Ytpkokhdkhcdgpaa
