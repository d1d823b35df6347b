/-
Largest sets and lists have no progressions of three, and numbers without the digit 2 have none. No condition.
-/
import Derived.Test.YtbidkjhgodkamaaDrw8
import Derived.Test.YtbidkjhgodkamaaKep
import Derived.Test.YtbidkjhgodkamaaOpb
import Derived.Test.YtbidkjhgodkamaaSmi
import Derived.Test.YtbidkjhgodkamaaApq
import Derived.Test.YtbidkjhgodkamaaIsApFree
import Derived.Test.YtbidkjhgodkamaaTri2
namespace Go.Proofs.Ytbidkjhgodkamaa
open Go.ChangeShapes Go.RowKit
set_option linter.unusedVariables false
set_option linter.unusedSimpArgs false

set_option maxRecDepth 20000 in
set_option maxHeartbeats 6400000 in
theorem walk_fnApFree (a : Option Addr) (cap n : Nat) (w : World) (hb : BtS w a cap n) :
    Calls Try.prog 8 #[.slice a n cap] w fun e w' => e = .returned (.bool true) ∧ Below w.heap.size w w' := by
  by_cases hbig : 1048576 < n
  · have hbg : decide (1048576 < n) = true := by simpa using hbig
    have C0 := big_any a cap n w
    rw [hbg] at C0
    go_enter Try.func8, Try.ntmps8
    go_wp2_with fail
    refine C0.mono ?_; rintro e w1 ⟨rfl, b1⟩
    go_wp2_with fail
    go_ret
    exact ⟨rfl, b1⟩
  have hn : n ≤ 2000000 := by omega
  have hbg : decide (1048576 < n) = false := by simpa using hbig
  have C0 := Lib.hid (big_any a cap n w)
  rw [hbg] at C0
  have HB := Lib.hid hb
  clear hbg hbig hb
  go_enter Try.func8, Try.ntmps8
  go_wp2_with fail
  refine C0.out.mono ?_; rintro e v1 ⟨rfl, b⟩
  have BB := b
  clear C0 b
  go_wp2_with fail
  have g := HB.out.below BB (Nat.le_refl _)
  refine (dLargestAF_any a cap n v1 g hn).mono ?_; rintro e v2 ⟨os, ag, cg, rfl, hos, og, b⟩
  have BB := nx BB b
  have k1 := KS.start og
  have al := below_alloc v2 (.cells #[.slice ag os.length cg] 26)
  have BB := nx BB al
  obtain ⟨v3, hwa⟩ : ∃ W, W = v2.alloc (.cells #[.slice ag os.length cg] 26) := ⟨_, rfl⟩
  rw [← hwa] at BB  k1
  have H_v3 := Lib.hid hwa
  clear hwa al b g og
  have LL := Lib.hid (@la_law os)
  have L1 := Lib.hid (fun w h => LargestApFree_impl ag cg os w h (by omega))
  have L2 := Lib.hid (fun w h => LargestApFree_spec ag cg os w h (by omega))
  obtain ⟨lv, hlv⟩ : ∃ l : Int, l = (lvLargestApFree os : Int) := ⟨_, rfl⟩
  obtain ⟨bv, hbv⟩ : ∃ l, l = bLargestApFree os := ⟨_, rfl⟩
  rw [← hlv, ← hbv] at LL L1 L2
  have S1 := Lib.hid (fun w h => apf_impl ag cg os lv w h (by omega))
  clear hlv hbv
  have q_k1 := k1.cell
  go_wp2_with fail
  clear q_k1
  rw [← H_v3.out]
  refine (L1.out _ k1.own).mono ?_; rintro e v4 ⟨rfl, b⟩
  have BB := nx BB b
  have k1 := k1.next b
  clear b
  have q_k1 := k1.cell
  go_wp2_with fail
  clear q_k1
  refine (L2.out _ k1.own).mono ?_; rintro e v5 ⟨rfl, b⟩
  have BB := nx BB b
  have k1 := k1.next b
  clear b L1 L2
  cases bv with
  | true =>
    obtain ⟨z1, z2⟩ := LL.out rfl
    rw [z1] at S1
    clear z1 LL
    have q_k1 := k1.cell
    go_wp2_with fail
    clear q_k1
    refine (S1.out _ k1.own).mono ?_; rintro e v6 ⟨rfl, b⟩
    have BB := nx BB b
    have k1 := k1.next b
    clear b S1
    have q_k1 := k1.cell
    go_wp2_with fail
    clear q_k1
    clear k1
    have g := HB.out.below BB (Nat.le_refl _)
    refine (dLongestFL_any a cap n v6 g hn).mono ?_; rintro e v7 ⟨z, rfl, hz1, hz2, b⟩
    have BB := nx BB b
    clear b g
    have FL := Lib.hid (@lf_law z)
    have F1 := Lib.hid (lf_impl z)
    have F2 := Lib.hid (lf_spec z)
    have FN := Lib.hid (lfL_len z)
    have D1 := behr_impl z
    rw [if_neg (show ¬ 81 < z by omega)] at D1
    have D1 := Lib.hid D1
    have hdl := behr_len z.toNat
    obtain ⟨dl, hdl2⟩ : ∃ l, l = behr z.toNat := ⟨_, rfl⟩
    obtain ⟨fl, hfl⟩ : ∃ l, l = lfL z := ⟨_, rfl⟩
    obtain ⟨fb, hfb⟩ : ∃ l, l = inB z 0 14 := ⟨_, rfl⟩
    rw [← hdl2] at D1 FL hdl
    rw [← hfl] at FL F1 F2 FN
    rw [← hfb] at FL F1 F2
    have hdn : dl.length ≤ 2000000 := by omega
    have hfn := FN.out
    have CS := Lib.hid (fun a0 a1 c0 c1 w h0 h1 => sameInts_any a0 a1 c0 c1 fl fl w h0 h1 hfn hfn)
    rw [show decide (fl = fl) = true by simp] at CS
    have A1 := Lib.hid (fun a c w h => apl_impl a c fl w h hfn)
    have A2 := Lib.hid (fun a c w h => apl_impl a c dl w h hdn)
    clear hdl2 hfl hfb FN hdl hz1 hz2
    go_wp2_with fail
    refine (F1.out _).mono ?_; rintro e v8 ⟨a1, c1, rfl, o1, b⟩
    have BB := nx BB b
    clear b
    have p1 := o1.ints
    clear o1 F1
    go_wp2_with fail
    refine (F2.out _).mono ?_; rintro e v9 ⟨a2, c2, rfl, o2, b⟩
    have BB := nx BB b
    have p1 := p1.below b (Nat.le_refl _)
    clear b
    have p2 := o2.ints
    clear o2 F2
    go_wp2_with fail
    refine (CS.out _ _ _ _ _ p1 p2).mono ?_; rintro e v10 ⟨rfl, b⟩
    have BB := nx BB b
    have p1 := p1.below b (Nat.le_refl _)
    have p2 := p2.below b (Nat.le_refl _)
    clear b
    clear p1
    go_wp2_with fail
    refine (D1.out _).mono ?_; rintro e v11 ⟨a3, c3, rfl, o3, b⟩
    have BB := nx BB b
    have p2 := p2.below b (Nat.le_refl _)
    clear b CS
    have p3 := o3.ints
    clear o3 D1
    cases fb with
    | true =>
      obtain ⟨f1, f2, f3⟩ := FL.out rfl
      rw [f1] at A1
      rw [f2] at A2
      have hfd2 : ¬ (fl.length : Int) < dl.length := by omega
      clear FL f1 f2 f3
      go_wp2_with fail
      refine (A1.out _ _ _ p2).mono ?_; rintro e v12 ⟨rfl, b⟩
      have BB := nx BB b
      have p2 := p2.below b (Nat.le_refl _)
      have p3 := p3.below b (Nat.le_refl _)
      clear b
      go_wp2_with fail
      refine (A2.out _ _ _ p3).mono ?_; rintro e v13 ⟨rfl, b⟩
      have BB := nx BB b
      have p2 := p2.below b (Nat.le_refl _)
      have p3 := p3.below b (Nat.le_refl _)
      clear b A1 A2
      clear p2 p3
      go_wp2_with fail
      have g := HB.out.below BB (Nat.le_refl _)
      refine (dTriples_any a cap n v13 g hn).mono ?_; rintro e v14 ⟨hs, ah, ch, c, rfl, hhs, hc, oh, b⟩
      have BB := nx BB b
      have k2 := KS.start oh
      have al := below_alloc v14 (.cells #[.slice ah hs.length ch] 26)
      have BB := nx BB al
      obtain ⟨v15, hwa⟩ : ∃ W, W = v14.alloc (.cells #[.slice ah hs.length ch] 26) := ⟨_, rfl⟩
      rw [← hwa] at BB  k2
      have H_v15 := Lib.hid hwa
      clear hwa al b g oh
      have T1 := Lib.hid (fun w h => tri_impl ah ch hs c w h (by omega))
      have T2 := Lib.hid (fun w h => tri_spec ah ch hs c w h (by omega))
      have T3 := Lib.hid (fun w h => apf_impl ah ch hs c w h (by omega))
      obtain ⟨tv, htv⟩ : ∃ t, t = triV hs c := ⟨_, rfl⟩
      rw [← htv] at T1 T2 T3
      clear htv
      have q_k2 := k2.cell
      go_wp2_with fail
      clear q_k2
      rw [← H_v15.out]
      refine (T1.out _ k2.own).mono ?_; rintro e v16 ⟨rfl, b⟩
      have BB := nx BB b
      have k2 := k2.next b
      clear b
      have q_k2 := k2.cell
      go_wp2_with fail
      clear q_k2
      have g := HB.out.below BB (Nat.le_refl _)
      refine (dIsAF_any a cap n v16 g hn).mono ?_; rintro e v17 ⟨el, ae, ce, rfl, hel, oe, b⟩
      have BB := nx BB b
      have k2 := k2.next b
      clear b g
      have pe := oe.ints
      clear oe
      have E1 := Lib.hid (fun w h => apl_impl ae ce el w h (by omega))
      have E2 := Lib.hid (fun w h => apl_spec ae ce el w h (by omega))
      obtain ⟨ev, hev⟩ : ∃ t, t = apB el := ⟨_, rfl⟩
      rw [← hev] at E1 E2
      clear hev
      have q_k2 := k2.cell
      go_wp2_with fail
      clear q_k2
      have g := HB.out.below BB (Nat.le_refl _)
      refine (dBehrend_any a cap n v17 g hn).mono ?_; rintro e v18 ⟨f, rfl, hf1, hf2, b⟩
      have BB := nx BB b
      have k2 := k2.next b
      have pe := pe.below b (Nat.le_refl _)
      clear b g
      have G1 := Lib.hid (behr_impl f)
      have G2 := Lib.hid (behr_spec f)
      have hbl : (if 81 < f then [] else behr f.toNat).length ≤ 2000000 := by
        split
        · simp
        · have := behr_len f.toNat; omega
      obtain ⟨gl, hgl⟩ : ∃ l, l = (if 81 < f then [] else behr f.toNat) := ⟨_, rfl⟩
      rw [← hgl] at G1 G2 hbl
      have CG := Lib.hid (fun a0 a1 c0 c1 w h0 h1 => sameInts_any a0 a1 c0 c1 gl gl w h0 h1 hbl hbl)
      rw [show decide (gl = gl) = true by simp] at CG
      clear hgl
      have q_k2 := k2.cell
      go_wp2_with fail
      clear q_k2
      refine (T2.out _ k2.own).mono ?_; rintro e v19 ⟨rfl, b⟩
      have BB := nx BB b
      have k2 := k2.next b
      have pe := pe.below b (Nat.le_refl _)
      clear b
      have q_k2 := k2.cell
      go_wp2_with fail
      clear q_k2
      refine (T3.out _ k2.own).mono ?_; rintro e v20 ⟨rfl, b⟩
      have BB := nx BB b
      have k2 := k2.next b
      have pe := pe.below b (Nat.le_refl _)
      clear b
      have q_k2 := k2.cell
      go_wp2_with fail
      clear q_k2
      refine (E1.out _ pe).mono ?_; rintro e v21 ⟨rfl, b⟩
      have BB := nx BB b
      have k2 := k2.next b
      have pe := pe.below b (Nat.le_refl _)
      clear b
      have q_k2 := k2.cell
      go_wp2_with fail
      clear q_k2
      refine (E2.out _ pe).mono ?_; rintro e v22 ⟨rfl, b⟩
      have BB := nx BB b
      have k2 := k2.next b
      have pe := pe.below b (Nat.le_refl _)
      clear b
      have q_k2 := k2.cell
      go_wp2_with fail
      clear q_k2
      refine (G1.out _).mono ?_; rintro e v23 ⟨a4, c4, rfl, o4, b⟩
      have BB := nx BB b
      have k2 := k2.next b
      have pe := pe.below b (Nat.le_refl _)
      clear b
      have p4 := o4.ints
      clear o4 G1
      have q_k2 := k2.cell
      go_wp2_with fail
      clear q_k2
      refine (G2.out _).mono ?_; rintro e v24 ⟨a5, c5, rfl, o5, b⟩
      have BB := nx BB b
      have k2 := k2.next b
      have pe := pe.below b (Nat.le_refl _)
      have p4 := p4.below b (Nat.le_refl _)
      clear b
      have p5 := o5.ints
      clear o5 G2
      have q_k2 := k2.cell
      go_wp2_with fail
      clear q_k2
      refine (CG.out _ _ _ _ _ p4 p5).mono ?_; rintro e v25 ⟨rfl, b⟩
      have BB := nx BB b
      have k2 := k2.next b
      have pe := pe.below b (Nat.le_refl _)
      have p4 := p4.below b (Nat.le_refl _)
      have p5 := p5.below b (Nat.le_refl _)
      clear b
      go_wp2_with fail
      go_ret
      exact ⟨ret_bool (by simp), BB⟩
    | false =>
      clear FL A1 A2
      clear p2 p3
      go_wp2_with fail
      have g := HB.out.below BB (Nat.le_refl _)
      refine (dTriples_any a cap n v11 g hn).mono ?_; rintro e v26 ⟨hs, ah, ch, c, rfl, hhs, hc, oh, b⟩
      have BB := nx BB b
      have k2 := KS.start oh
      have al := below_alloc v26 (.cells #[.slice ah hs.length ch] 26)
      have BB := nx BB al
      obtain ⟨v27, hwa⟩ : ∃ W, W = v26.alloc (.cells #[.slice ah hs.length ch] 26) := ⟨_, rfl⟩
      rw [← hwa] at BB  k2
      have H_v27 := Lib.hid hwa
      clear hwa al b g oh
      have T1 := Lib.hid (fun w h => tri_impl ah ch hs c w h (by omega))
      have T2 := Lib.hid (fun w h => tri_spec ah ch hs c w h (by omega))
      have T3 := Lib.hid (fun w h => apf_impl ah ch hs c w h (by omega))
      obtain ⟨tv, htv⟩ : ∃ t, t = triV hs c := ⟨_, rfl⟩
      rw [← htv] at T1 T2 T3
      clear htv
      have q_k2 := k2.cell
      go_wp2_with fail
      clear q_k2
      rw [← H_v27.out]
      refine (T1.out _ k2.own).mono ?_; rintro e v28 ⟨rfl, b⟩
      have BB := nx BB b
      have k2 := k2.next b
      clear b
      have q_k2 := k2.cell
      go_wp2_with fail
      clear q_k2
      have g := HB.out.below BB (Nat.le_refl _)
      refine (dIsAF_any a cap n v28 g hn).mono ?_; rintro e v29 ⟨el, ae, ce, rfl, hel, oe, b⟩
      have BB := nx BB b
      have k2 := k2.next b
      clear b g
      have pe := oe.ints
      clear oe
      have E1 := Lib.hid (fun w h => apl_impl ae ce el w h (by omega))
      have E2 := Lib.hid (fun w h => apl_spec ae ce el w h (by omega))
      obtain ⟨ev, hev⟩ : ∃ t, t = apB el := ⟨_, rfl⟩
      rw [← hev] at E1 E2
      clear hev
      have q_k2 := k2.cell
      go_wp2_with fail
      clear q_k2
      have g := HB.out.below BB (Nat.le_refl _)
      refine (dBehrend_any a cap n v29 g hn).mono ?_; rintro e v30 ⟨f, rfl, hf1, hf2, b⟩
      have BB := nx BB b
      have k2 := k2.next b
      have pe := pe.below b (Nat.le_refl _)
      clear b g
      have G1 := Lib.hid (behr_impl f)
      have G2 := Lib.hid (behr_spec f)
      have hbl : (if 81 < f then [] else behr f.toNat).length ≤ 2000000 := by
        split
        · simp
        · have := behr_len f.toNat; omega
      obtain ⟨gl, hgl⟩ : ∃ l, l = (if 81 < f then [] else behr f.toNat) := ⟨_, rfl⟩
      rw [← hgl] at G1 G2 hbl
      have CG := Lib.hid (fun a0 a1 c0 c1 w h0 h1 => sameInts_any a0 a1 c0 c1 gl gl w h0 h1 hbl hbl)
      rw [show decide (gl = gl) = true by simp] at CG
      clear hgl
      have q_k2 := k2.cell
      go_wp2_with fail
      clear q_k2
      refine (T2.out _ k2.own).mono ?_; rintro e v31 ⟨rfl, b⟩
      have BB := nx BB b
      have k2 := k2.next b
      have pe := pe.below b (Nat.le_refl _)
      clear b
      have q_k2 := k2.cell
      go_wp2_with fail
      clear q_k2
      refine (T3.out _ k2.own).mono ?_; rintro e v32 ⟨rfl, b⟩
      have BB := nx BB b
      have k2 := k2.next b
      have pe := pe.below b (Nat.le_refl _)
      clear b
      have q_k2 := k2.cell
      go_wp2_with fail
      clear q_k2
      refine (E1.out _ pe).mono ?_; rintro e v33 ⟨rfl, b⟩
      have BB := nx BB b
      have k2 := k2.next b
      have pe := pe.below b (Nat.le_refl _)
      clear b
      have q_k2 := k2.cell
      go_wp2_with fail
      clear q_k2
      refine (E2.out _ pe).mono ?_; rintro e v34 ⟨rfl, b⟩
      have BB := nx BB b
      have k2 := k2.next b
      have pe := pe.below b (Nat.le_refl _)
      clear b
      have q_k2 := k2.cell
      go_wp2_with fail
      clear q_k2
      refine (G1.out _).mono ?_; rintro e v35 ⟨a4, c4, rfl, o4, b⟩
      have BB := nx BB b
      have k2 := k2.next b
      have pe := pe.below b (Nat.le_refl _)
      clear b
      have p4 := o4.ints
      clear o4 G1
      have q_k2 := k2.cell
      go_wp2_with fail
      clear q_k2
      refine (G2.out _).mono ?_; rintro e v36 ⟨a5, c5, rfl, o5, b⟩
      have BB := nx BB b
      have k2 := k2.next b
      have pe := pe.below b (Nat.le_refl _)
      have p4 := p4.below b (Nat.le_refl _)
      clear b
      have p5 := o5.ints
      clear o5 G2
      have q_k2 := k2.cell
      go_wp2_with fail
      clear q_k2
      refine (CG.out _ _ _ _ _ p4 p5).mono ?_; rintro e v37 ⟨rfl, b⟩
      have BB := nx BB b
      have k2 := k2.next b
      have pe := pe.below b (Nat.le_refl _)
      have p4 := p4.below b (Nat.le_refl _)
      have p5 := p5.below b (Nat.le_refl _)
      clear b
      go_wp2_with fail
      go_ret
      exact ⟨ret_bool (by simp), BB⟩
  | false =>
    clear LL S1
    clear k1
    go_wp2_with fail
    have g := HB.out.below BB (Nat.le_refl _)
    refine (dLongestFL_any a cap n v5 g hn).mono ?_; rintro e v38 ⟨z, rfl, hz1, hz2, b⟩
    have BB := nx BB b
    clear b g
    have FL := Lib.hid (@lf_law z)
    have F1 := Lib.hid (lf_impl z)
    have F2 := Lib.hid (lf_spec z)
    have FN := Lib.hid (lfL_len z)
    have D1 := behr_impl z
    rw [if_neg (show ¬ 81 < z by omega)] at D1
    have D1 := Lib.hid D1
    have hdl := behr_len z.toNat
    obtain ⟨dl, hdl2⟩ : ∃ l, l = behr z.toNat := ⟨_, rfl⟩
    obtain ⟨fl, hfl⟩ : ∃ l, l = lfL z := ⟨_, rfl⟩
    obtain ⟨fb, hfb⟩ : ∃ l, l = inB z 0 14 := ⟨_, rfl⟩
    rw [← hdl2] at D1 FL hdl
    rw [← hfl] at FL F1 F2 FN
    rw [← hfb] at FL F1 F2
    have hdn : dl.length ≤ 2000000 := by omega
    have hfn := FN.out
    have CS := Lib.hid (fun a0 a1 c0 c1 w h0 h1 => sameInts_any a0 a1 c0 c1 fl fl w h0 h1 hfn hfn)
    rw [show decide (fl = fl) = true by simp] at CS
    have A1 := Lib.hid (fun a c w h => apl_impl a c fl w h hfn)
    have A2 := Lib.hid (fun a c w h => apl_impl a c dl w h hdn)
    clear hdl2 hfl hfb FN hdl hz1 hz2
    go_wp2_with fail
    refine (F1.out _).mono ?_; rintro e v39 ⟨a1, c1, rfl, o1, b⟩
    have BB := nx BB b
    clear b
    have p1 := o1.ints
    clear o1 F1
    go_wp2_with fail
    refine (F2.out _).mono ?_; rintro e v40 ⟨a2, c2, rfl, o2, b⟩
    have BB := nx BB b
    have p1 := p1.below b (Nat.le_refl _)
    clear b
    have p2 := o2.ints
    clear o2 F2
    go_wp2_with fail
    refine (CS.out _ _ _ _ _ p1 p2).mono ?_; rintro e v41 ⟨rfl, b⟩
    have BB := nx BB b
    have p1 := p1.below b (Nat.le_refl _)
    have p2 := p2.below b (Nat.le_refl _)
    clear b
    clear p1
    go_wp2_with fail
    refine (D1.out _).mono ?_; rintro e v42 ⟨a3, c3, rfl, o3, b⟩
    have BB := nx BB b
    have p2 := p2.below b (Nat.le_refl _)
    clear b CS
    have p3 := o3.ints
    clear o3 D1
    cases fb with
    | true =>
      obtain ⟨f1, f2, f3⟩ := FL.out rfl
      rw [f1] at A1
      rw [f2] at A2
      have hfd2 : ¬ (fl.length : Int) < dl.length := by omega
      clear FL f1 f2 f3
      go_wp2_with fail
      refine (A1.out _ _ _ p2).mono ?_; rintro e v43 ⟨rfl, b⟩
      have BB := nx BB b
      have p2 := p2.below b (Nat.le_refl _)
      have p3 := p3.below b (Nat.le_refl _)
      clear b
      go_wp2_with fail
      refine (A2.out _ _ _ p3).mono ?_; rintro e v44 ⟨rfl, b⟩
      have BB := nx BB b
      have p2 := p2.below b (Nat.le_refl _)
      have p3 := p3.below b (Nat.le_refl _)
      clear b A1 A2
      clear p2 p3
      go_wp2_with fail
      have g := HB.out.below BB (Nat.le_refl _)
      refine (dTriples_any a cap n v44 g hn).mono ?_; rintro e v45 ⟨hs, ah, ch, c, rfl, hhs, hc, oh, b⟩
      have BB := nx BB b
      have k2 := KS.start oh
      have al := below_alloc v45 (.cells #[.slice ah hs.length ch] 26)
      have BB := nx BB al
      obtain ⟨v46, hwa⟩ : ∃ W, W = v45.alloc (.cells #[.slice ah hs.length ch] 26) := ⟨_, rfl⟩
      rw [← hwa] at BB  k2
      have H_v46 := Lib.hid hwa
      clear hwa al b g oh
      have T1 := Lib.hid (fun w h => tri_impl ah ch hs c w h (by omega))
      have T2 := Lib.hid (fun w h => tri_spec ah ch hs c w h (by omega))
      have T3 := Lib.hid (fun w h => apf_impl ah ch hs c w h (by omega))
      obtain ⟨tv, htv⟩ : ∃ t, t = triV hs c := ⟨_, rfl⟩
      rw [← htv] at T1 T2 T3
      clear htv
      have q_k2 := k2.cell
      go_wp2_with fail
      clear q_k2
      rw [← H_v46.out]
      refine (T1.out _ k2.own).mono ?_; rintro e v47 ⟨rfl, b⟩
      have BB := nx BB b
      have k2 := k2.next b
      clear b
      have q_k2 := k2.cell
      go_wp2_with fail
      clear q_k2
      have g := HB.out.below BB (Nat.le_refl _)
      refine (dIsAF_any a cap n v47 g hn).mono ?_; rintro e v48 ⟨el, ae, ce, rfl, hel, oe, b⟩
      have BB := nx BB b
      have k2 := k2.next b
      clear b g
      have pe := oe.ints
      clear oe
      have E1 := Lib.hid (fun w h => apl_impl ae ce el w h (by omega))
      have E2 := Lib.hid (fun w h => apl_spec ae ce el w h (by omega))
      obtain ⟨ev, hev⟩ : ∃ t, t = apB el := ⟨_, rfl⟩
      rw [← hev] at E1 E2
      clear hev
      have q_k2 := k2.cell
      go_wp2_with fail
      clear q_k2
      have g := HB.out.below BB (Nat.le_refl _)
      refine (dBehrend_any a cap n v48 g hn).mono ?_; rintro e v49 ⟨f, rfl, hf1, hf2, b⟩
      have BB := nx BB b
      have k2 := k2.next b
      have pe := pe.below b (Nat.le_refl _)
      clear b g
      have G1 := Lib.hid (behr_impl f)
      have G2 := Lib.hid (behr_spec f)
      have hbl : (if 81 < f then [] else behr f.toNat).length ≤ 2000000 := by
        split
        · simp
        · have := behr_len f.toNat; omega
      obtain ⟨gl, hgl⟩ : ∃ l, l = (if 81 < f then [] else behr f.toNat) := ⟨_, rfl⟩
      rw [← hgl] at G1 G2 hbl
      have CG := Lib.hid (fun a0 a1 c0 c1 w h0 h1 => sameInts_any a0 a1 c0 c1 gl gl w h0 h1 hbl hbl)
      rw [show decide (gl = gl) = true by simp] at CG
      clear hgl
      have q_k2 := k2.cell
      go_wp2_with fail
      clear q_k2
      refine (T2.out _ k2.own).mono ?_; rintro e v50 ⟨rfl, b⟩
      have BB := nx BB b
      have k2 := k2.next b
      have pe := pe.below b (Nat.le_refl _)
      clear b
      have q_k2 := k2.cell
      go_wp2_with fail
      clear q_k2
      refine (T3.out _ k2.own).mono ?_; rintro e v51 ⟨rfl, b⟩
      have BB := nx BB b
      have k2 := k2.next b
      have pe := pe.below b (Nat.le_refl _)
      clear b
      have q_k2 := k2.cell
      go_wp2_with fail
      clear q_k2
      refine (E1.out _ pe).mono ?_; rintro e v52 ⟨rfl, b⟩
      have BB := nx BB b
      have k2 := k2.next b
      have pe := pe.below b (Nat.le_refl _)
      clear b
      have q_k2 := k2.cell
      go_wp2_with fail
      clear q_k2
      refine (E2.out _ pe).mono ?_; rintro e v53 ⟨rfl, b⟩
      have BB := nx BB b
      have k2 := k2.next b
      have pe := pe.below b (Nat.le_refl _)
      clear b
      have q_k2 := k2.cell
      go_wp2_with fail
      clear q_k2
      refine (G1.out _).mono ?_; rintro e v54 ⟨a4, c4, rfl, o4, b⟩
      have BB := nx BB b
      have k2 := k2.next b
      have pe := pe.below b (Nat.le_refl _)
      clear b
      have p4 := o4.ints
      clear o4 G1
      have q_k2 := k2.cell
      go_wp2_with fail
      clear q_k2
      refine (G2.out _).mono ?_; rintro e v55 ⟨a5, c5, rfl, o5, b⟩
      have BB := nx BB b
      have k2 := k2.next b
      have pe := pe.below b (Nat.le_refl _)
      have p4 := p4.below b (Nat.le_refl _)
      clear b
      have p5 := o5.ints
      clear o5 G2
      have q_k2 := k2.cell
      go_wp2_with fail
      clear q_k2
      refine (CG.out _ _ _ _ _ p4 p5).mono ?_; rintro e v56 ⟨rfl, b⟩
      have BB := nx BB b
      have k2 := k2.next b
      have pe := pe.below b (Nat.le_refl _)
      have p4 := p4.below b (Nat.le_refl _)
      have p5 := p5.below b (Nat.le_refl _)
      clear b
      go_wp2_with fail
      go_ret
      exact ⟨ret_bool (by simp), BB⟩
    | false =>
      clear FL A1 A2
      clear p2 p3
      go_wp2_with fail
      have g := HB.out.below BB (Nat.le_refl _)
      refine (dTriples_any a cap n v42 g hn).mono ?_; rintro e v57 ⟨hs, ah, ch, c, rfl, hhs, hc, oh, b⟩
      have BB := nx BB b
      have k2 := KS.start oh
      have al := below_alloc v57 (.cells #[.slice ah hs.length ch] 26)
      have BB := nx BB al
      obtain ⟨v58, hwa⟩ : ∃ W, W = v57.alloc (.cells #[.slice ah hs.length ch] 26) := ⟨_, rfl⟩
      rw [← hwa] at BB  k2
      have H_v58 := Lib.hid hwa
      clear hwa al b g oh
      have T1 := Lib.hid (fun w h => tri_impl ah ch hs c w h (by omega))
      have T2 := Lib.hid (fun w h => tri_spec ah ch hs c w h (by omega))
      have T3 := Lib.hid (fun w h => apf_impl ah ch hs c w h (by omega))
      obtain ⟨tv, htv⟩ : ∃ t, t = triV hs c := ⟨_, rfl⟩
      rw [← htv] at T1 T2 T3
      clear htv
      have q_k2 := k2.cell
      go_wp2_with fail
      clear q_k2
      rw [← H_v58.out]
      refine (T1.out _ k2.own).mono ?_; rintro e v59 ⟨rfl, b⟩
      have BB := nx BB b
      have k2 := k2.next b
      clear b
      have q_k2 := k2.cell
      go_wp2_with fail
      clear q_k2
      have g := HB.out.below BB (Nat.le_refl _)
      refine (dIsAF_any a cap n v59 g hn).mono ?_; rintro e v60 ⟨el, ae, ce, rfl, hel, oe, b⟩
      have BB := nx BB b
      have k2 := k2.next b
      clear b g
      have pe := oe.ints
      clear oe
      have E1 := Lib.hid (fun w h => apl_impl ae ce el w h (by omega))
      have E2 := Lib.hid (fun w h => apl_spec ae ce el w h (by omega))
      obtain ⟨ev, hev⟩ : ∃ t, t = apB el := ⟨_, rfl⟩
      rw [← hev] at E1 E2
      clear hev
      have q_k2 := k2.cell
      go_wp2_with fail
      clear q_k2
      have g := HB.out.below BB (Nat.le_refl _)
      refine (dBehrend_any a cap n v60 g hn).mono ?_; rintro e v61 ⟨f, rfl, hf1, hf2, b⟩
      have BB := nx BB b
      have k2 := k2.next b
      have pe := pe.below b (Nat.le_refl _)
      clear b g
      have G1 := Lib.hid (behr_impl f)
      have G2 := Lib.hid (behr_spec f)
      have hbl : (if 81 < f then [] else behr f.toNat).length ≤ 2000000 := by
        split
        · simp
        · have := behr_len f.toNat; omega
      obtain ⟨gl, hgl⟩ : ∃ l, l = (if 81 < f then [] else behr f.toNat) := ⟨_, rfl⟩
      rw [← hgl] at G1 G2 hbl
      have CG := Lib.hid (fun a0 a1 c0 c1 w h0 h1 => sameInts_any a0 a1 c0 c1 gl gl w h0 h1 hbl hbl)
      rw [show decide (gl = gl) = true by simp] at CG
      clear hgl
      have q_k2 := k2.cell
      go_wp2_with fail
      clear q_k2
      refine (T2.out _ k2.own).mono ?_; rintro e v62 ⟨rfl, b⟩
      have BB := nx BB b
      have k2 := k2.next b
      have pe := pe.below b (Nat.le_refl _)
      clear b
      have q_k2 := k2.cell
      go_wp2_with fail
      clear q_k2
      refine (T3.out _ k2.own).mono ?_; rintro e v63 ⟨rfl, b⟩
      have BB := nx BB b
      have k2 := k2.next b
      have pe := pe.below b (Nat.le_refl _)
      clear b
      have q_k2 := k2.cell
      go_wp2_with fail
      clear q_k2
      refine (E1.out _ pe).mono ?_; rintro e v64 ⟨rfl, b⟩
      have BB := nx BB b
      have k2 := k2.next b
      have pe := pe.below b (Nat.le_refl _)
      clear b
      have q_k2 := k2.cell
      go_wp2_with fail
      clear q_k2
      refine (E2.out _ pe).mono ?_; rintro e v65 ⟨rfl, b⟩
      have BB := nx BB b
      have k2 := k2.next b
      have pe := pe.below b (Nat.le_refl _)
      clear b
      have q_k2 := k2.cell
      go_wp2_with fail
      clear q_k2
      refine (G1.out _).mono ?_; rintro e v66 ⟨a4, c4, rfl, o4, b⟩
      have BB := nx BB b
      have k2 := k2.next b
      have pe := pe.below b (Nat.le_refl _)
      clear b
      have p4 := o4.ints
      clear o4 G1
      have q_k2 := k2.cell
      go_wp2_with fail
      clear q_k2
      refine (G2.out _).mono ?_; rintro e v67 ⟨a5, c5, rfl, o5, b⟩
      have BB := nx BB b
      have k2 := k2.next b
      have pe := pe.below b (Nat.le_refl _)
      have p4 := p4.below b (Nat.le_refl _)
      clear b
      have p5 := o5.ints
      clear o5 G2
      have q_k2 := k2.cell
      go_wp2_with fail
      clear q_k2
      refine (CG.out _ _ _ _ _ p4 p5).mono ?_; rintro e v68 ⟨rfl, b⟩
      have BB := nx BB b
      have k2 := k2.next b
      have pe := pe.below b (Nat.le_refl _)
      have p4 := p4.below b (Nat.le_refl _)
      have p5 := p5.below b (Nat.le_refl _)
      clear b
      go_wp2_with fail
      go_ret
      exact ⟨ret_bool (by simp), BB⟩

end Go.Proofs.Ytbidkjhgodkamaa
