/-
The program's MonochromeSolution returns what the reference's returns, for all arguments; what it hands back is its own. No condition.
-/
import Derived.Test.YtheeglaocflgmaaSlv8
import Derived.Test.YtheeglaocflgmaaHelp
namespace Go.Proofs.Ytheeglaocflgmaa
open Go.ChangeShapes Go.RowKit
set_option linter.unusedVariables false

theorem moL_len (c cs : List Int) : (moL c cs).length ≤ 1000000 := by
  unfold moL moF
  split
  · rename_i h
    cases hf : (solL c cs.length (fun _ _ => true) c.length []).find? (mono cs) with
    | none => simp
    | some z =>
      obtain ⟨t, ht, h1, _⟩ := solL_mem (List.mem_of_find?_eq_some hf)
      have := (eqn_bd h.1).1
      rw [List.nil_append] at ht
      subst ht
      simp only [Option.getD_some]
      omega
  · simp

set_option maxRecDepth 20000 in
set_option maxHeartbeats 6400000 in
theorem walk_fnExactMonochromeSolution (axs : Option Addr) (cxs : Nat) (xs : List Int) (ays : Option Addr) (cys : Nat) (ys : List Int) (w : World) (hxs : Ints w axs cxs xs) (hys : Ints w ays cys ys) :
    Calls Try.prog 9 #[.slice axs xs.length cxs, .slice ays ys.length cys] w fun e w' => e = .returned (.bool true) ∧ Below w.heap.size w w' := by
  by_cases hbigxs : (1048576 : Int) < xs.length
  · go_enter Try.func9, Try.ntmps9
    go_wp2_with fail
    go_ret
    exact ⟨rfl, Below.refl _ _⟩
  · have hlxs : xs.length ≤ 2000000 := by omega
    have hmxs : xs.length ≤ 1048576 := by omega
    by_cases hbigys : (1048576 : Int) < ys.length
    · go_enter Try.func9, Try.ntmps9
      go_wp2_with fail
      go_ret
      exact ⟨rfl, Below.refl _ _⟩
    · have hlys : ys.length ≤ 2000000 := by omega
      have hmys : ys.length ≤ 1048576 := by omega
      have C1 := Lib.hid (fun axs' cxs' ays' cys' w hxs' hys' => mo_spec axs' cxs' xs ays' cys' ys w hxs' hys' hlxs hlys)
      have C2 := Lib.hid (fun axs' cxs' ays' cys' w hxs' hys' => mo_impl axs' cxs' xs ays' cys' ys w hxs' hys' hlxs hlys)
      have HL := moL_len xs ys
      obtain ⟨r, hr⟩ : ∃ r, r = moL xs ys := ⟨_, rfl⟩
      obtain ⟨rb, hrb⟩ : ∃ r, r = moB xs ys := ⟨_, rfl⟩
      rw [← hr, ← hrb] at C1 C2
      rw [← hr] at HL
      clear hr hrb
      cases rb
      all_goals
        go_enter Try.func9, Try.ntmps9
        have T0 := Below.refl w.heap.size w
        have h_1 := hxs.below T0 (Nat.le_refl _)
        go_wp2_with fail
        refine (toIntS_any axs cxs xs _ h_1 hlxs).mono ?_; rintro e w1 ⟨a_2, c_3, rfl, o_4, b_5⟩
        clear h_1
        have T_6 := nx T0 b_5
        have s_7 : w.heap.size ≤ w1.heap.size := b_5.size
        clear T0 b_5
        have r_8 := o_4.lt
        have R_9 := Lib.hid r_8
        clear r_8
        have h_10 := hys.below T_6 (Nat.le_refl _)
        go_wp2_with fail
        refine (toIntS_any ays cys ys _ h_10 hlys).mono ?_; rintro e w2 ⟨a_11, c_12, rfl, o_13, b_14⟩
        clear h_10
        have o_15 := o_4.below b_14 (Nat.le_refl _)
        have T_16 := nx T_6 b_14
        have s_17 : w1.heap.size ≤ w2.heap.size := b_14.size
        clear o_4 T_6 b_14
        have r_18 := o_13.lt
        have R_19 := Lib.hid r_18
        clear r_18
        have hlr : r.length ≤ 2000000 := by omega
        go_wp2_with fail
        refine (C1.out _ _ _ _ _ o_15.ints o_13.ints).mono ?_; rintro e w3 ⟨a_21, c_22, rfl, o_23, b_20⟩
        clear o_15 R_9
        clear o_13 R_19
        have T_25 := nx T_16 b_20
        have s_26 : w2.heap.size ≤ w3.heap.size := b_20.size
        clear T_16 b_20
        have r_27 := o_23.lt
        have R_28 := Lib.hid r_27
        clear r_27
        have h_29 := hxs.below T_25 (Nat.le_refl _)
        go_wp2_with fail
        refine (toIntS_any axs cxs xs _ h_29 hlxs).mono ?_; rintro e w4 ⟨a_30, c_31, rfl, o_32, b_33⟩
        clear h_29
        have o_34 := o_23.below b_33 (Nat.le_refl _)
        have T_35 := nx T_25 b_33
        have s_36 : w3.heap.size ≤ w4.heap.size := b_33.size
        clear o_23 T_25 b_33
        have r_37 := o_32.lt
        have R_38 := Lib.hid r_37
        clear r_37
        have h_39 := hys.below T_35 (Nat.le_refl _)
        go_wp2_with fail
        refine (toIntS_any ays cys ys _ h_39 hlys).mono ?_; rintro e w5 ⟨a_40, c_41, rfl, o_42, b_43⟩
        clear h_39
        have o_44 := o_34.below b_43 (Nat.le_refl _)
        have o_45 := o_32.below b_43 (Nat.le_refl _)
        have T_46 := nx T_35 b_43
        have s_47 : w4.heap.size ≤ w5.heap.size := b_43.size
        clear o_34 o_32 T_35 b_43
        have r_48 := o_42.lt
        have R_49 := Lib.hid r_48
        clear r_48
        go_wp2_with fail
        refine (C2.out _ _ _ _ _ o_45.ints o_42.ints).mono ?_; rintro e w6 ⟨a_51, c_52, rfl, o_53, b_50⟩
        have o_55 := o_44.below b_50 (Nat.le_refl _)
        have o_56 := o_45.below b_50 (Nat.le_refl _)
        have o_57 := o_42.below b_50 (Nat.le_refl _)
        have T_58 := nx T_46 b_50
        have s_59 : w5.heap.size ≤ w6.heap.size := b_50.size
        clear o_44 o_45 o_42 T_46 b_50
        have r_60 := o_53.lt
        have R_61 := Lib.hid r_60
        clear r_60
        go_wp2_with fail
        refine (eqIntS_refl a_51 a_21 c_52 c_22 r _ o_53.ints o_55.ints hlr).mono ?_; rintro e w7 ⟨rfl, b_62⟩
        have o_63 := o_55.below b_62 (Nat.le_refl _)
        have o_64 := o_56.below b_62 (Nat.le_refl _)
        have o_65 := o_57.below b_62 (Nat.le_refl _)
        have o_66 := o_53.below b_62 (Nat.le_refl _)
        have T_67 := nx T_58 b_62
        have s_68 : w6.heap.size ≤ w7.heap.size := b_62.size
        clear o_55 o_56 o_57 o_53 T_58 b_62
        have h_69 := hxs.below T_67 (Nat.le_refl _)
        go_wp2_with fail
        refine (toIntS_any axs cxs xs _ h_69 hlxs).mono ?_; rintro e w8 ⟨a_70, c_71, rfl, o_72, b_73⟩
        clear h_69
        have o_74 := o_63.below b_73 (Nat.le_refl _)
        have o_75 := o_64.below b_73 (Nat.le_refl _)
        have o_76 := o_65.below b_73 (Nat.le_refl _)
        have o_77 := o_66.below b_73 (Nat.le_refl _)
        have T_78 := nx T_67 b_73
        have s_79 : w7.heap.size ≤ w8.heap.size := b_73.size
        clear o_63 o_64 o_65 o_66 T_67 b_73
        have r_80 := o_72.lt
        have R_81 := Lib.hid r_80
        clear r_80
        go_wp2_with fail
        refine (eqIntS_refl a_30 a_70 c_31 c_71 xs _ o_75.ints o_72.ints hlxs).mono ?_; rintro e w9 ⟨rfl, b_82⟩
        have o_83 := o_74.below b_82 (Nat.le_refl _)
        have o_84 := o_75.below b_82 (Nat.le_refl _)
        have o_85 := o_76.below b_82 (Nat.le_refl _)
        have o_86 := o_77.below b_82 (Nat.le_refl _)
        have o_87 := o_72.below b_82 (Nat.le_refl _)
        have T_88 := nx T_78 b_82
        have s_89 : w8.heap.size ≤ w9.heap.size := b_82.size
        clear o_74 o_75 o_76 o_77 o_72 T_78 b_82
        clear o_87 R_81
        have h_90 := hys.below T_88 (Nat.le_refl _)
        go_wp2_with fail
        refine (toIntS_any ays cys ys _ h_90 hlys).mono ?_; rintro e w10 ⟨a_91, c_92, rfl, o_93, b_94⟩
        clear h_90
        have o_95 := o_83.below b_94 (Nat.le_refl _)
        have o_96 := o_84.below b_94 (Nat.le_refl _)
        have o_97 := o_85.below b_94 (Nat.le_refl _)
        have o_98 := o_86.below b_94 (Nat.le_refl _)
        have T_99 := nx T_88 b_94
        have s_100 : w9.heap.size ≤ w10.heap.size := b_94.size
        clear o_83 o_84 o_85 o_86 T_88 b_94
        have r_101 := o_93.lt
        have R_102 := Lib.hid r_101
        clear r_101
        go_wp2_with fail
        refine (eqIntS_refl a_40 a_91 c_41 c_92 ys _ o_97.ints o_93.ints hlys).mono ?_; rintro e w11 ⟨rfl, b_103⟩
        have o_104 := o_95.below b_103 (Nat.le_refl _)
        have o_105 := o_96.below b_103 (Nat.le_refl _)
        have o_106 := o_97.below b_103 (Nat.le_refl _)
        have o_107 := o_98.below b_103 (Nat.le_refl _)
        have o_108 := o_93.below b_103 (Nat.le_refl _)
        have T_109 := nx T_99 b_103
        have s_110 : w10.heap.size ≤ w11.heap.size := b_103.size
        clear o_95 o_96 o_97 o_98 o_93 T_99 b_103
        clear o_108 R_102
        go_wp2_with fail
        refine (markIntS_any w3.heap.size a_30 c_31 xs (1) _ o_105 (by omega) hlxs (by omega) (by omega)).mono ?_; rintro e w12 ⟨rfl, o_113, b_111, g_112⟩
        clear o_105
        have o_114 := o_104.kept g_112 (fun x y hx hy => by have k1 := R_28.out x hx; have k2 := R_38.out y hy; omega)
        have o_115 := o_106.kept g_112 (fun x y hx hy => by have k1 := R_49.out x hx; have k2 := R_38.out y hy; omega)
        have o_116 := o_107.kept g_112 (fun x y hx hy => by have k1 := R_61.out x hx; have k2 := R_38.out y hy; omega)
        have b_117 := b_111.mono (show w.heap.size ≤ w3.heap.size by omega)
        have T_118 := T_109.trans b_117
        have s_119 : w11.heap.size ≤ w12.heap.size := b_111.size
        clear o_104 o_106 o_107 T_109 b_111 b_117 g_112
        clear o_113
        go_wp2_with fail
        refine (markIntS_any w4.heap.size a_40 c_41 ys (1 + xs.length) _ o_115 (by omega) hlys (by omega) (by omega)).mono ?_; rintro e w13 ⟨rfl, o_122, b_120, g_121⟩
        clear o_115
        have o_123 := o_114.kept g_121 (fun x y hx hy => by have k1 := R_28.out x hx; have k2 := R_49.out y hy; omega)
        have o_124 := o_116.kept g_121 (fun x y hx hy => by have k1 := R_61.out x hx; have k2 := R_49.out y hy; omega)
        have b_125 := b_120.mono (show w.heap.size ≤ w4.heap.size by omega)
        have T_126 := T_118.trans b_125
        have s_127 : w12.heap.size ≤ w13.heap.size := b_120.size
        clear o_114 o_116 T_118 b_120 b_125 g_121
        clear o_122
        go_wp2_with fail
        refine (eqIntS_refl a_51 a_21 c_52 c_22 r _ o_124.ints o_123.ints hlr).mono ?_; rintro e w14 ⟨rfl, b_128⟩
        have o_129 := o_123.below b_128 (Nat.le_refl _)
        have o_130 := o_124.below b_128 (Nat.le_refl _)
        have T_131 := nx T_126 b_128
        have s_132 : w13.heap.size ≤ w14.heap.size := b_128.size
        clear o_123 o_124 T_126 b_128
        go_wp2_with fail
        refine (markIntS_any w5.heap.size a_51 c_52 r (1) _ o_130 (by omega) hlr (by omega) (by omega)).mono ?_; rintro e w15 ⟨rfl, o_135, b_133, g_134⟩
        clear o_130
        have o_136 := o_129.kept g_134 (fun x y hx hy => by have k1 := R_28.out x hx; have k2 := R_61.out y hy; omega)
        have b_137 := b_133.mono (show w.heap.size ≤ w5.heap.size by omega)
        have T_138 := T_131.trans b_137
        have s_139 : w14.heap.size ≤ w15.heap.size := b_133.size
        clear o_129 T_131 b_133 b_137 g_134
        go_wp2_with fail
        refine (heldIntS_any a_51 c_52 1 r.length _ o_135.ints hlr (by omega) (by omega)).mono ?_; rintro e w16 ⟨rfl, b_140⟩
        have o_141 := o_136.below b_140 (Nat.le_refl _)
        have o_142 := o_135.below b_140 (Nat.le_refl _)
        have T_143 := nx T_138 b_140
        have s_144 : w15.heap.size ≤ w16.heap.size := b_140.size
        clear o_136 o_135 T_138 b_140
        have h_145 := hxs.below T_143 (Nat.le_refl _)
        go_wp2_with fail
        refine (toIntS_any axs cxs xs _ h_145 hlxs).mono ?_; rintro e w17 ⟨a_146, c_147, rfl, o_148, b_149⟩
        clear h_145
        have o_150 := o_141.below b_149 (Nat.le_refl _)
        have o_151 := o_142.below b_149 (Nat.le_refl _)
        have T_152 := nx T_143 b_149
        have s_153 : w16.heap.size ≤ w17.heap.size := b_149.size
        clear o_141 o_142 T_143 b_149
        have r_154 := o_148.lt
        have R_155 := Lib.hid r_154
        clear r_154
        have h_156 := hys.below T_152 (Nat.le_refl _)
        go_wp2_with fail
        refine (toIntS_any ays cys ys _ h_156 hlys).mono ?_; rintro e w18 ⟨a_157, c_158, rfl, o_159, b_160⟩
        clear h_156
        have o_161 := o_150.below b_160 (Nat.le_refl _)
        have o_162 := o_151.below b_160 (Nat.le_refl _)
        have o_163 := o_148.below b_160 (Nat.le_refl _)
        have T_164 := nx T_152 b_160
        have s_165 : w17.heap.size ≤ w18.heap.size := b_160.size
        clear o_150 o_151 o_148 T_152 b_160
        have r_166 := o_159.lt
        have R_167 := Lib.hid r_166
        clear r_166
        go_wp2_with fail
        refine (C2.out _ _ _ _ _ o_163.ints o_159.ints).mono ?_; rintro e w19 ⟨a_169, c_170, rfl, o_171, b_168⟩
        clear o_163 R_155
        clear o_159 R_167
        have o_173 := o_161.below b_168 (Nat.le_refl _)
        have o_174 := o_162.below b_168 (Nat.le_refl _)
        have T_175 := nx T_164 b_168
        have s_176 : w18.heap.size ≤ w19.heap.size := b_168.size
        clear o_161 o_162 T_164 b_168
        have r_177 := o_171.lt
        have R_178 := Lib.hid r_177
        clear r_177
        go_wp2_with fail
        refine (eqIntS_refl a_169 a_21 c_170 c_22 r _ o_171.ints o_173.ints hlr).mono ?_; rintro e w20 ⟨rfl, b_179⟩
        have o_180 := o_173.below b_179 (Nat.le_refl _)
        have o_181 := o_174.below b_179 (Nat.le_refl _)
        have o_182 := o_171.below b_179 (Nat.le_refl _)
        have T_183 := nx T_175 b_179
        have s_184 : w19.heap.size ≤ w20.heap.size := b_179.size
        clear o_173 o_174 o_171 T_175 b_179
        go_wp2_with fail
        refine (heldIntS_any a_51 c_52 1 r.length _ o_181.ints hlr (by omega) (by omega)).mono ?_; rintro e w21 ⟨rfl, b_185⟩
        have o_186 := o_180.below b_185 (Nat.le_refl _)
        have o_187 := o_181.below b_185 (Nat.le_refl _)
        have o_188 := o_182.below b_185 (Nat.le_refl _)
        have T_189 := nx T_183 b_185
        have s_190 : w20.heap.size ≤ w21.heap.size := b_185.size
        clear o_180 o_181 o_182 T_183 b_185
        go_wp2_with fail
        go_ret
        exact ⟨rfl, T_189⟩

end Go.Proofs.Ytheeglaocflgmaa
