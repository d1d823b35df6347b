/-
The program's SolutionsIn returns what the reference's returns, for all arguments; what it hands back is its own. No condition.
-/
import Derived.Test.YtheeglaocflgmaaSlv8
import Derived.Test.YtheeglaocflgmaaRws
namespace Go.Proofs.Ytheeglaocflgmaa
open Go.ChangeShapes Go.RowKit
set_option linter.unusedVariables false

theorem sumL_le2 {R : Nat → List Int} {m : Nat} (h : ∀ i, (R i).length ≤ m) : ∀ n, sumL R n ≤ n * m
  | 0 => by simp [sumL]
  | n + 1 => by
    have := sumL_le2 h n
    have := h n
    rw [Nat.succ_mul]
    simp only [sumL]
    omega
theorem siL_lens (c : List Int) (n : Int) : (siL c n).length ≤ 1000000 ∧ (∀ i, ((siL c n).getD i []).length ≤ 1000000) ∧ sumL (fun i => (siL c n).getD i []) (siL c n).length ≤ 900000 := by
  by_cases h : siB c n = true
  · have e : siL c n = solL c n.toNat (fun _ _ => true) c.length [] := by simp [siL, h]
    simp only [siB, Bool.and_eq_true] at h
    obtain ⟨l4, _⟩ := eqn_bd h.1
    obtain ⟨n1, n2⟩ := inB_true.1 h.2
    have hpw : n.toNat ^ c.length ≤ 4096 := by
      have k1 : n.toNat ^ c.length ≤ 8 ^ c.length := Nat.pow_le_pow_left (by omega) _
      have k2 : 8 ^ c.length ≤ 8 ^ 4 := Nat.pow_le_pow_right (by decide) l4
      have k3 : 8 ^ 4 = 4096 := by decide
      omega
    have hlen := solL_len c n.toNat (fun _ _ => true) c.length []
    rw [← e] at hlen
    have hrow : ∀ i, ((siL c n).getD i []).length ≤ 4 := fun i => by
      by_cases hi : i < (siL c n).length
      · have hm : (siL c n)[i] ∈ solL c n.toNat (fun _ _ => true) c.length [] := by rw [← e]; exact List.getElem_mem hi
        obtain ⟨t, ht, h1, _⟩ := solL_mem hm
        rw [List.nil_append] at ht
        rw [List.getD_eq_getElem?_getD, List.getElem?_eq_getElem hi, Option.getD_some, ht, h1]
        exact l4
      · rw [List.getD_eq_getElem?_getD, List.getElem?_eq_none (by omega)]; simp
    refine ⟨by omega, fun i => by have := hrow i; omega, ?_⟩
    have := sumL_le2 hrow (siL c n).length
    omega
  · have e : siL c n = [] := by simp [siL, h]
    rw [e]
    simp [sumL]

set_option maxRecDepth 20000 in
set_option maxHeartbeats 6400000 in
theorem walk_fnExactSolutionsIn (axs : Option Addr) (cxs : Nat) (xs : List Int) (n : Int) (w : World) (hxs : Ints w axs cxs xs) (_ : (Lit.int .i64 n).wf = true) :
    Calls Try.prog 10 #[.slice axs xs.length cxs, .int .i64 n] w fun e w' => e = .returned (.bool true) ∧ Below w.heap.size w w' := by
  by_cases hbigxs : (1048576 : Int) < xs.length
  · go_enter Try.func10, Try.ntmps10
    go_wp2_with fail
    go_ret
    exact ⟨rfl, Below.refl _ _⟩
  · have hlxs : xs.length ≤ 2000000 := by omega
    have hmxs : xs.length ≤ 1048576 := by omega
    have C1 := Lib.hid (fun axs' cxs' w hxs' => si_spec axs' cxs' xs n w hxs' hlxs)
    have C2 := Lib.hid (fun axs' cxs' w hxs' => si_impl axs' cxs' xs n w hxs' hlxs)
    have HL := siL_lens xs n
    obtain ⟨r, hr⟩ : ∃ r, r = siL xs n := ⟨_, rfl⟩
    obtain ⟨rb, hrb⟩ : ∃ r, r = siB xs n := ⟨_, rfl⟩
    rw [← hr, ← hrb] at C1 C2
    rw [← hr] at HL
    clear hr hrb
    have HL2 := HL.1
    have HLR : Hid (∀ i, (r.getD i []).length ≤ 1000000) := Lib.hid HL.2.1
    obtain ⟨S, hS⟩ : ∃ S, S = sumL (fun i => r.getD i []) r.length := ⟨_, rfl⟩
    have HS := Lib.hid hS
    have hSb : S ≤ 900000 := by rw [hS]; exact HL.2.2
    clear hS HL
    cases rb
    all_goals
      go_enter Try.func10, Try.ntmps10
      have T0 := Below.refl w.heap.size w
      have h_1 := hxs.below T0 (Nat.le_refl _)
      go_wp2_with fail
      refine (toIntS_any axs cxs xs _ h_1 hlxs).mono ?_; rintro e w1 ⟨a_2, c_3, rfl, o_4, b_5⟩
      clear h_1
      have T_6 := nx T0 b_5
      have s_7 : w.heap.size ≤ w1.heap.size := b_5.size
      clear T0 b_5
      have r_8 := o_4.lt
      have R_9 := Lib.hid r_8
      clear r_8
      go_wp2_with fail
      refine (C1.out _ _ _ o_4.ints).mono ?_; rintro e w2 ⟨a_11, c_12, vs_14, rfl, o_13, b_10⟩
      clear o_4 R_9
      have T_15 := nx T_6 b_10
      have s_16 : w1.heap.size ≤ w2.heap.size := b_10.size
      clear T_6 b_10
      have R_17 := Lib.hid o_13.outLt
      have R_18 := Lib.hid o_13.rowLt
      have h_19 := hxs.below T_15 (Nat.le_refl _)
      go_wp2_with fail
      refine (toIntS_any axs cxs xs _ h_19 hlxs).mono ?_; rintro e w3 ⟨a_20, c_21, rfl, o_22, b_23⟩
      clear h_19
      have o_24 := o_13.below b_23 (Nat.le_refl _)
      have T_25 := nx T_15 b_23
      have s_26 : w2.heap.size ≤ w3.heap.size := b_23.size
      clear o_13 T_15 b_23
      have r_27 := o_22.lt
      have R_28 := Lib.hid r_27
      clear r_27
      go_wp2_with fail
      refine (C2.out _ _ _ o_22.ints).mono ?_; rintro e w4 ⟨a_30, c_31, vs_33, rfl, o_32, b_29⟩
      have o_34 := o_24.below b_29 (Nat.le_refl _)
      have o_35 := o_22.below b_29 (Nat.le_refl _)
      have T_36 := nx T_25 b_29
      have s_37 : w3.heap.size ≤ w4.heap.size := b_29.size
      clear o_24 o_22 T_25 b_29
      have R_38 := Lib.hid o_32.outLt
      have R_39 := Lib.hid o_32.rowLt
      go_wp2_with fail
      refine (eqIntSS_refl a_30 a_11 c_31 c_12 r.length (fun i => r.getD i []) vs_33 vs_14 _ o_32.rd o_34.rd HL2 HLR.out).mono ?_; rintro e w5 ⟨rfl, b_40⟩
      have o_41 := o_34.below b_40 (Nat.le_refl _)
      have o_42 := o_35.below b_40 (Nat.le_refl _)
      have o_43 := o_32.below b_40 (Nat.le_refl _)
      have T_44 := nx T_36 b_40
      have s_45 : w4.heap.size ≤ w5.heap.size := b_40.size
      clear o_34 o_35 o_32 T_36 b_40
      have h_46 := hxs.below T_44 (Nat.le_refl _)
      go_wp2_with fail
      refine (toIntS_any axs cxs xs _ h_46 hlxs).mono ?_; rintro e w6 ⟨a_47, c_48, rfl, o_49, b_50⟩
      clear h_46
      have o_51 := o_41.below b_50 (Nat.le_refl _)
      have o_52 := o_42.below b_50 (Nat.le_refl _)
      have o_53 := o_43.below b_50 (Nat.le_refl _)
      have T_54 := nx T_44 b_50
      have s_55 : w5.heap.size ≤ w6.heap.size := b_50.size
      clear o_41 o_42 o_43 T_44 b_50
      have r_56 := o_49.lt
      have R_57 := Lib.hid r_56
      clear r_56
      go_wp2_with fail
      refine (eqIntS_refl a_20 a_47 c_21 c_48 xs _ o_52.ints o_49.ints hlxs).mono ?_; rintro e w7 ⟨rfl, b_58⟩
      have o_59 := o_51.below b_58 (Nat.le_refl _)
      have o_60 := o_52.below b_58 (Nat.le_refl _)
      have o_61 := o_53.below b_58 (Nat.le_refl _)
      have o_62 := o_49.below b_58 (Nat.le_refl _)
      have T_63 := nx T_54 b_58
      have s_64 : w6.heap.size ≤ w7.heap.size := b_58.size
      clear o_51 o_52 o_53 o_49 T_54 b_58
      clear o_62 R_57
      go_wp2_with fail
      refine (markIntS_any w2.heap.size a_20 c_21 xs (1) _ o_60 (by omega) hlxs (by omega) (by omega)).mono ?_; rintro e w8 ⟨rfl, o_67, b_65, g_66⟩
      clear o_60
      have o_68 := o_59.kept g_66 (fun b hb he => by
        have k1 := R_17.out b hb
        cases hq : a_20 with
        | none => rw [hq] at he; simp at he
        | some y => rw [hq] at he; have k2 := R_28.out y hq; simp at he; omega) (fun i v b hv hb he => by
        have k1 := R_18.out i v b hv hb
        cases hq : a_20 with
        | none => rw [hq] at he; simp at he
        | some y => rw [hq] at he; have k2 := R_28.out y hq; simp at he; omega)
      have o_69 := o_61.kept g_66 (fun b hb he => by
        have k1 := R_38.out b hb
        cases hq : a_20 with
        | none => rw [hq] at he; simp at he
        | some y => rw [hq] at he; have k2 := R_28.out y hq; simp at he; omega) (fun i v b hv hb he => by
        have k1 := R_39.out i v b hv hb
        cases hq : a_20 with
        | none => rw [hq] at he; simp at he
        | some y => rw [hq] at he; have k2 := R_28.out y hq; simp at he; omega)
      have b_70 := b_65.mono (show w.heap.size ≤ w2.heap.size by omega)
      have T_71 := T_63.trans b_70
      have s_72 : w7.heap.size ≤ w8.heap.size := b_65.size
      clear o_59 o_61 T_63 b_65 b_70 g_66
      clear o_67
      go_wp2_with fail
      refine (eqIntSS_refl a_30 a_11 c_31 c_12 r.length (fun i => r.getD i []) vs_33 vs_14 _ o_69.rd o_68.rd HL2 HLR.out).mono ?_; rintro e w9 ⟨rfl, b_73⟩
      have o_74 := o_68.below b_73 (Nat.le_refl _)
      have o_75 := o_69.below b_73 (Nat.le_refl _)
      have T_76 := nx T_71 b_73
      have s_77 : w8.heap.size ≤ w9.heap.size := b_73.size
      clear o_68 o_69 T_71 b_73
      go_wp2_with fail
      refine (markIntSS_any w3.heap.size a_30 c_31 r.length (fun i => r.getD i []) vs_33 1 _ o_75 (by omega) HL2 (by rw [← HS.out]; omega)).mono ?_; rintro e w10 ⟨rfl, o_79, b_78⟩
      rw [← HS.out]
      have o_80 := o_74.below' b_78 (fun b hb => by have k1 := R_17.out b hb; omega) (fun i v b hv hb => by have k1 := R_18.out i v b hv hb; omega)
      have b_81 := b_78.mono (show w.heap.size ≤ w3.heap.size by omega)
      have T_82 := T_76.trans b_81
      have s_83 : w9.heap.size ≤ w10.heap.size := b_78.size
      clear o_75 o_74 T_76 b_78 b_81
      go_wp2_with fail
      refine (heldIntSS_any a_30 c_31 r.length (fun i => r.getD i []) vs_33 1 _ o_79.rd HL2 (by rw [← HS.out]; omega)).mono ?_; rintro e w11 ⟨rfl, b_84⟩
      rw [← HS.out]
      have o_85 := o_80.below b_84 (Nat.le_refl _)
      have o_86 := o_79.below b_84 (Nat.le_refl _)
      have T_87 := nx T_82 b_84
      have s_88 : w10.heap.size ≤ w11.heap.size := b_84.size
      clear o_80 o_79 T_82 b_84
      have h_89 := hxs.below T_87 (Nat.le_refl _)
      go_wp2_with fail
      refine (toIntS_any axs cxs xs _ h_89 hlxs).mono ?_; rintro e w12 ⟨a_90, c_91, rfl, o_92, b_93⟩
      clear h_89
      have o_94 := o_85.below b_93 (Nat.le_refl _)
      have o_95 := o_86.below b_93 (Nat.le_refl _)
      have T_96 := nx T_87 b_93
      have s_97 : w11.heap.size ≤ w12.heap.size := b_93.size
      clear o_85 o_86 T_87 b_93
      have r_98 := o_92.lt
      have R_99 := Lib.hid r_98
      clear r_98
      go_wp2_with fail
      refine (C2.out _ _ _ o_92.ints).mono ?_; rintro e w13 ⟨a_101, c_102, vs_104, rfl, o_103, b_100⟩
      clear o_92 R_99
      have o_105 := o_94.below b_100 (Nat.le_refl _)
      have o_106 := o_95.below b_100 (Nat.le_refl _)
      have T_107 := nx T_96 b_100
      have s_108 : w12.heap.size ≤ w13.heap.size := b_100.size
      clear o_94 o_95 T_96 b_100
      have R_109 := Lib.hid o_103.outLt
      have R_110 := Lib.hid o_103.rowLt
      go_wp2_with fail
      refine (eqIntSS_refl a_101 a_11 c_102 c_12 r.length (fun i => r.getD i []) vs_104 vs_14 _ o_103.rd o_105.rd HL2 HLR.out).mono ?_; rintro e w14 ⟨rfl, b_111⟩
      have o_112 := o_105.below b_111 (Nat.le_refl _)
      have o_113 := o_106.below b_111 (Nat.le_refl _)
      have o_114 := o_103.below b_111 (Nat.le_refl _)
      have T_115 := nx T_107 b_111
      have s_116 : w13.heap.size ≤ w14.heap.size := b_111.size
      clear o_105 o_106 o_103 T_107 b_111
      go_wp2_with fail
      refine (heldIntSS_any a_30 c_31 r.length (fun i => r.getD i []) vs_33 1 _ o_113.rd HL2 (by rw [← HS.out]; omega)).mono ?_; rintro e w15 ⟨rfl, b_117⟩
      rw [← HS.out]
      have o_118 := o_112.below b_117 (Nat.le_refl _)
      have o_119 := o_113.below b_117 (Nat.le_refl _)
      have o_120 := o_114.below b_117 (Nat.le_refl _)
      have T_121 := nx T_115 b_117
      have s_122 : w14.heap.size ≤ w15.heap.size := b_117.size
      clear o_112 o_113 o_114 T_115 b_117
      go_wp2_with fail
      go_ret
      exact ⟨rfl, T_121⟩

end Go.Proofs.Ytheeglaocflgmaa
