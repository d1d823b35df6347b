/-
Coefficients that are told do not vanish, so sums modulo a prime are as large as the bounds, and products over sums vanish on grids. No condition.
-/
import Derived.Test.YtbidkjhgodkamaaDrw9
import Derived.Test.YtbidkjhgodkamaaKep
import Derived.Test.YtbidkjhgodkamaaOpb
import Derived.Test.YtbidkjhgodkamaaSmi
import Derived.Test.YtbidkjhgodkamaaCfq
import Derived.Test.YtbidkjhgodkamaaZgr
import Derived.Deep.CutRange
namespace Go.Proofs.Ytbidkjhgodkamaa
open Go.ChangeShapes Go.RowKit
set_option linter.unusedVariables false
set_option linter.unusedSimpArgs false

theorem and_four {a b c d : Bool} (h : true = (a && (b && (c && d)))) : a = true ∧ b = true ∧ c = true ∧ d = true := by
  cases a <;> cases b <;> cases c <;> cases d <;> simp_all
set_option maxRecDepth 20000 in
set_option maxHeartbeats 40000000 in
theorem walk_fnCoefficients (a : Option Addr) (cap n : Nat) (w : World) (hb : BtS w a cap n) :
    Calls Try.prog 9 #[.slice a n cap] w fun e w' => e = .returned (.bool true) ∧ Below w.heap.size w w' := by
  by_cases hbig : 1048576 < n
  · have hbg : decide (1048576 < n) = true := by simpa using hbig
    have C0 := big_any a cap n w
    rw [hbg] at C0
    go_enter Try.func9, Try.ntmps9
    ((try dsimp only); repeat (first | ((with_reducible (show wpList _ _ _ (List.append _ _) _ _)); simp only [List.append]) | go_values | go_skip | go_guarded | go_step | go_upon | go_back))
    refine C0.mono ?_; rintro e w1 ⟨rfl, b1⟩
    ((try dsimp only); repeat (first | ((with_reducible (show wpList _ _ _ (List.append _ _) _ _)); simp only [List.append]) | go_values | go_skip | go_guarded | go_step | go_upon | go_back))
    go_ret
    exact ⟨rfl, b1⟩
  have hn : n ≤ 2000000 := by omega
  have hbg : decide (1048576 < n) = false := by simpa using hbig
  have C0 := Lib.hid (big_any a cap n w)
  rw [hbg] at C0
  have HB := Lib.hid hb
  clear hbg hbig hb
  go_enter Try.func9, Try.ntmps9
  ((try dsimp only); repeat (first | ((with_reducible (show wpList _ _ _ (List.append _ _) _ _)); simp only [List.append]) | go_values | go_skip | go_guarded | go_step | go_upon | go_back))
  refine C0.out.mono ?_; rintro e v1 ⟨rfl, b⟩
  have BB := b
  clear C0 b
  ((try dsimp only); repeat (first | ((with_reducible (show wpList _ _ _ (List.append _ _) _ _)); simp only [List.append]) | go_values | go_skip | go_guarded | go_step | go_upon | go_back))
  have g := HB.out.below BB (Nat.le_refl _)
  refine (dZeroGrid_any a cap n v1 g hn).mono ?_; rintro e v2 ⟨p, x, y, z, rfl, hp1, hp2, hx, hy, hz, b⟩
  have BB := nx BB b
  clear b g
  have hpw : (Lit.int .i64 p).wf = true := wf_of (by omega) (by omega)
  have Z1 := Lib.hid (fun w => zg_impl p x y z w hpw hx hy hz)
  have Z2 := Lib.hid (fun w => zg_spec p x y z w hpw)
  have CF := Lib.hid (@cf_law p x y z)
  obtain ⟨zv, hzv⟩ : ∃ v, v = zgB p x y z := ⟨_, rfl⟩
  rw [← hzv] at Z1 Z2 CF
  clear hzv hx hy hz
  ((try dsimp only); repeat (first | ((with_reducible (show wpList _ _ _ (List.append _ _) _ _)); simp only [List.append]) | go_values | go_skip | go_guarded | go_step | go_upon | go_back))
  refine (Z1.out _).mono ?_; rintro e v3 ⟨rfl, b⟩
  have BB := nx BB b
  clear b Z1
  ((try dsimp only); repeat (first | ((with_reducible (show wpList _ _ _ (List.append _ _) _ _)); simp only [List.append]) | go_values | go_skip | go_guarded | go_step | go_upon | go_back))
  refine (Z2.out _).mono ?_; rintro e v4 ⟨rfl, b⟩
  have BB := nx BB b
  clear b Z2
  obtain ⟨W5, hW5⟩ : ∃ W, W = (v4.alloc (.cells #[.int .i64 p] 3)).alloc (.cells #[.slice (some ⟨v4.heap.size, 0, none⟩) 1 1] 26) := ⟨_, rfl⟩
  have al1 := below_alloc v4 (.cells #[.int .i64 p] 3)
  have al2 := below_alloc (v4.alloc (.cells #[.int .i64 p] 3)) (.cells #[.slice (some ⟨v4.heap.size, 0, none⟩) 1 1] 26)
  have BB := nx (nx BB al1) al2
  have k1 := KS.start (OwnI.one (w := v4) (B := v4.heap.size) (x := p) rfl (Nat.le_refl _) hpw)
  rw [show (v4.alloc (.cells #[.int .i64 p] 3)).heap.size = v4.heap.size + 1 by simp, show [p].length = 1 from rfl, ← hW5] at k1
  rw [← hW5] at BB
  have HW5 := Lib.hid hW5
  have PO := Lib.hid (fun w h => primeO_spec (some ⟨v4.heap.size, 0, none⟩) 1 [p] w h (by simp))
  rw [prm_ordV] at PO
  have IS := Lib.hid (fun a w h => isSet_spec (some ⟨v4.heap.size, 0, none⟩) 1 [p] a w h (by simp))
  have SO := Lib.hid (fun w h => sos_spec (some ⟨v4.heap.size, 0, none⟩) 1 [p] x y w h (by simp))
  have CN := Lib.hid (fun a w h => cntS_spec (some ⟨v4.heap.size, 0, none⟩) 1 [p] a w h (by simp))
  have RS := Lib.hid (fun A B w h hg hA hB => rst_spec (some ⟨v4.heap.size, 0, none⟩) 1 [p] A B w h (by simp) hg hA hB)
  rw [show [p].length = 1 from rfl] at PO IS SO CN RS
  have IX := Lib.hid (IS.out x)
  have IY := Lib.hid (IS.out y)
  have IZ := Lib.hid (IS.out z)
  have HP23 : prmB p = true → p ≤ 23 := fun h => (prm_bd h).2
  have HHB := Lib.hid (fun A B R => @hb_law p A B R)
  obtain ⟨pb, hpb⟩ : ∃ v, v = prmB p := ⟨_, rfl⟩
  obtain ⟨sx, hsx⟩ : ∃ v, v = setB [p] x := ⟨_, rfl⟩
  obtain ⟨sy, hsy⟩ : ∃ v, v = setB [p] y := ⟨_, rfl⟩
  obtain ⟨sz, hsz⟩ : ∃ v, v = setB [p] z := ⟨_, rfl⟩
  rw [← hpb] at PO HP23
  rw [← hsx] at IX
  rw [← hsy] at IY
  rw [← hsz] at IZ
  have HPB := Lib.hid hpb
  have HSX := Lib.hid hsx
  have HSY := Lib.hid hsy
  have HSZ := Lib.hid hsz
  obtain ⟨os, hos⟩ : ∃ os, os = [p] := ⟨_, rfl⟩
  have hl1 : os.length = 1 := by rw [hos]; rfl
  have HL1 := Lib.hid hl1
  have HOS := Lib.hid hos
  have k1' : KS (v4.heap.size + 1) (some ⟨v4.heap.size, 0, none⟩) 1 [p] W5 := k1
  rw [← hos] at k1' IX IY IZ PO SO CN RS
  clear hW5 al1 al2 k1 IS hpb hsx hsy hsz hos hl1
  have k1 := k1'
  clear k1'
  go_upto_region 8 with fail
  rw [← HW5.out]
  have q_k1 := k1.cell
  rw [HL1.out] at q_k1
  go_upto_region 8 with fail
  go_cut [81] from 37 to 81 (fun s81 wx => s81 = .bool (pb && (sx && (sy && sz))) ∧ Below w.heap.size w wx ∧ KS (v4.heap.size + 1) (some ⟨v4.heap.size, 0, none⟩) 1 os wx)
  case first =>
    cases pb with
    | true =>
      have hp23 := HP23 rfl
      have q_k1 := k1.cell
      rw [HL1.out] at q_k1
      ((try dsimp only); repeat (first | ((with_reducible (show wpList _ _ _ (List.append _ _) _ _)); simp only [List.append]) | go_values | go_skip | go_guarded | go_step | go_upon | go_back))
      clear q_k1
      refine (PO.out _ k1.own).mono ?_; rintro e v6 ⟨rfl, b⟩
      have BB := nx BB b
      have k1 := k1.next b
      clear b
      have q_k1 := k1.cell
      rw [HL1.out] at q_k1
      ((try dsimp only); repeat (first | ((with_reducible (show wpList _ _ _ (List.append _ _) _ _)); simp only [List.append]) | go_values | go_skip | go_guarded | go_step | go_upon | go_back))
      clear q_k1
      refine (IX.out _ k1.own).mono ?_; rintro e v7 ⟨rfl, b⟩
      have BB := nx BB b
      have k1 := k1.next b
      clear b
      cases sx with
      | true =>
        have q_k1 := k1.cell
        rw [HL1.out] at q_k1
        ((try dsimp only); repeat (first | ((with_reducible (show wpList _ _ _ (List.append _ _) _ _)); simp only [List.append]) | go_values | go_skip | go_guarded | go_step | go_upon | go_back))
        clear q_k1
        refine (IY.out _ k1.own).mono ?_; rintro e v8 ⟨rfl, b⟩
        have BB := nx BB b
        have k1 := k1.next b
        clear b
        cases sy with
        | true =>
          have q_k1 := k1.cell
          rw [HL1.out] at q_k1
          ((try dsimp only); repeat (first | ((with_reducible (show wpList _ _ _ (List.append _ _) _ _)); simp only [List.append]) | go_values | go_skip | go_guarded | go_step | go_upon | go_back))
          clear q_k1
          refine (IZ.out _ k1.own).mono ?_; rintro e v9 ⟨rfl, b⟩
          have BB := nx BB b
          have k1 := k1.next b
          clear b
          cases sz with
          | true =>
            ((try dsimp only); repeat (first | ((with_reducible (show wpList _ _ _ (List.append _ _) _ _)); simp only [List.append]) | go_values | go_skip | go_guarded | go_step | go_upon | go_back))
            go_meet
            exact ⟨rfl, BB, k1⟩
          | false =>
            ((try dsimp only); repeat (first | ((with_reducible (show wpList _ _ _ (List.append _ _) _ _)); simp only [List.append]) | go_values | go_skip | go_guarded | go_step | go_upon | go_back))
            go_meet
            exact ⟨rfl, BB, k1⟩
        | false =>
          ((try dsimp only); repeat (first | ((with_reducible (show wpList _ _ _ (List.append _ _) _ _)); simp only [List.append]) | go_values | go_skip | go_guarded | go_step | go_upon | go_back))
          go_meet
          exact ⟨rfl, BB, k1⟩
      | false =>
        ((try dsimp only); repeat (first | ((with_reducible (show wpList _ _ _ (List.append _ _) _ _)); simp only [List.append]) | go_values | go_skip | go_guarded | go_step | go_upon | go_back))
        go_meet
        exact ⟨rfl, BB, k1⟩
    | false =>
      have q_k1 := k1.cell
      rw [HL1.out] at q_k1
      ((try dsimp only); repeat (first | ((with_reducible (show wpList _ _ _ (List.append _ _) _ _)); simp only [List.append]) | go_values | go_skip | go_guarded | go_step | go_upon | go_back))
      clear q_k1
      refine (PO.out _ k1.own).mono ?_; rintro e v10 ⟨rfl, b⟩
      have BB := nx BB b
      have k1 := k1.next b
      clear b
      ((try dsimp only); repeat (first | ((with_reducible (show wpList _ _ _ (List.append _ _) _ _)); simp only [List.append]) | go_values | go_skip | go_guarded | go_step | go_upon | go_back))
      go_meet
      exact ⟨rfl, BB, k1⟩
  case rest =>
  obtain ⟨rfl, BB, k1⟩ := hcut
  clear IX IY IZ PO HP23 q_k1
  obtain ⟨V, hV⟩ : ∃ V, V = (pb && (sx && (sy && sz))) := ⟨_, rfl⟩
  rw [← hV]
  have HV := Lib.hid hV
  clear hV
  go_upto_if 81 with fail
  go_cut [] from 37 to 166 (fun wx => Below w.heap.size w wx)
  case first =>
    cases V with
    | true =>
      have hV := HV.out
      obtain ⟨rfl, rfl, rfl, rfl⟩ := and_four hV
      have hp23 := prm_bd HPB.out.symm
      obtain ⟨A, B, S, hA, hB, hS, lA, lB, lS, lS24, cA, cB, cS, hz, pA, pB, hM⟩ := CF.out HPB.out.symm HSX.out.symm HSY.out.symm HSZ.out.symm
      have CX := CN.out x
      have CY := CN.out y
      have CS := CN.out (S : Int)
      have HB3 := HHB.out A B
      have hOS := HOS.out
      have hg := grp_prm HPB.out.symm
      have RS2 := fun w h => RS.out A B w h (by rw [hOS]; exact hg.1) (by rw [hOS, (grp_gn hg.1).2.2.2.2, hg.2]; exact lA) (by rw [hOS, (grp_gn hg.1).2.2.2.2, hg.2]; exact lB)
      rw [← hOS] at cA cB cS hS
      rw [cA] at CX
      rw [cB] at CY
      rw [cS] at CS
      rw [hS] at SO
      have hCR : ∀ R : Nat, R < 2 ^ gn os → cntV os (R : Int) = (popc R : Int) := fun R h => cntV_of (by rw [hOS]; exact hg.1) h
      have hgnp : gn os = p.toNat := by rw [hOS]; exact hg.2
      obtain ⟨nn, hnn⟩ : ∃ q : Int, q = (popc A : Int) := ⟨_, rfl⟩
      obtain ⟨mm, hmm⟩ : ∃ q : Int, q = (popc B : Int) := ⟨_, rfl⟩
      obtain ⟨tt, htt⟩ : ∃ q : Int, q = (popc S : Int) := ⟨_, rfl⟩
      have HM2 : 1 ≤ nn → 1 ≤ mm → cpB p nn mm = decide (nn + mm - 2 < p) ∧ (nn + mm - 2 < p → 1 ≤ cpV p nn mm ∧ cpV p nn mm < p ∧ nn + mm ≤ tt + 1) := by
        intro h1 h2
        rw [hnn, hmm]
        obtain ⟨k1, k2⟩ := hM (by omega) (by omega)
        exact ⟨k1, fun h => by obtain ⟨k3, k4, k5⟩ := k2 h; exact ⟨k3, k4, by omega⟩⟩
      have HB4 : ∀ R : Nat, R < 2 ^ gn os → (∀ u v : Nat, A.testBit u = true → B.testBit v = true → u ≠ v → R.testBit (gadd os u v) = true) → 1 ≤ nn → 1 ≤ mm → (nn ≠ mm ∨ x = y) → hbv p nn mm ≤ (popc R : Int) := by
        intro R hR h h1 h2 h3
        rw [hnn, hmm]
        rw [hgnp] at hR
        rw [hOS] at h
        exact HB3 R HPB.out.symm lA lB hR (by omega) (by omega) h (by omega)
      rw [← hnn] at CX pA
      rw [← hmm] at CY pB
      rw [← htt] at CS
      have hn0 : 0 ≤ nn := by omega
      have hm0 : 0 ≤ mm := by omega
      have SO2 := Lib.hid SO.out
      have CXH := Lib.hid CX
      have CYH := Lib.hid CY
      have CSH := Lib.hid CS
      have RSH := Lib.hid RS2
      have HM3 := Lib.hid HM2
      have HB5 := Lib.hid HB4
      have HCR := Lib.hid hCR
      subst hA
      subst hB
      clear hM HM2 HB4 HB3 hCR hnn hmm htt CX CY CS RS2 RS CN SO hS cA cB cS hg hgnp hOS CF HHB lA lB HV hV
      have q_k1 := k1.cell
      rw [HL1.out] at q_k1
      ((try dsimp only); repeat (first | ((with_reducible (show wpList _ _ _ (List.append _ _) _ _)); simp only [List.append]) | go_values | go_skip | go_guarded | go_step | go_upon | go_back))
      clear q_k1
      refine (SO2.out _ k1.own).mono ?_; rintro e v12 ⟨rfl, b⟩
      have BB := nx BB b
      have k1 := k1.next b
      clear b SO2
      have q_k1 := k1.cell
      rw [HL1.out] at q_k1
      ((try dsimp only); repeat (first | ((with_reducible (show wpList _ _ _ (List.append _ _) _ _)); simp only [List.append]) | go_values | go_skip | go_guarded | go_step | go_upon | go_back))
      clear q_k1
      refine (CXH.out _ k1.own).mono ?_; rintro e v13 ⟨rfl, b⟩
      have BB := nx BB b
      have k1 := k1.next b
      clear b CXH
      have q_k1 := k1.cell
      rw [HL1.out] at q_k1
      ((try dsimp only); repeat (first | ((with_reducible (show wpList _ _ _ (List.append _ _) _ _)); simp only [List.append]) | go_values | go_skip | go_guarded | go_step | go_upon | go_back))
      clear q_k1
      refine (CYH.out _ k1.own).mono ?_; rintro e v14 ⟨rfl, b⟩
      have BB := nx BB b
      have k1 := k1.next b
      clear b CYH
      have hzz : (zv != (bits .and .i64 (S : Int) z == (S : Int))) = false := by rw [hz]; simp
      obtain ⟨SZ, hSZ⟩ : ∃ q, q = bits .and .i64 (S : Int) z := ⟨_, rfl⟩
      have hSZ2 := hSZ.symm
      rw [hSZ2] at hzz hz
      clear hSZ
      by_cases hn1 : 0 < nn
      · have hnb1 : decide (0 < nn) = true := by simpa using hn1
        by_cases hm1 : 0 < mm
        · have hmb1 : decide (0 < mm) = true := by simpa using hm1
          obtain ⟨c1, c2⟩ := HM3.out (by omega) (by omega)
          have HB6 := Lib.hid (fun R h1 h2 => HB5.out R h1 h2 (by omega) (by omega))
          have CP := cp_impl p nn mm
          have HBI := hb_impl p nn mm
          rw [c1] at CP
          obtain ⟨K, hK⟩ : ∃ q, q = cpV p nn mm := ⟨_, rfl⟩
          obtain ⟨hv, hhv⟩ : ∃ q, q = hbv p nn mm := ⟨_, rfl⟩
          rw [← hK] at CP c2
          rw [← hhv] at HBI HB6
          have CPH := Lib.hid CP
          have HBH := Lib.hid HBI
          have C2 := Lib.hid c2
          have hw1 : IntKind.i64.wrap (nn + mm) = nn + mm := by rw [IntKind.wrap_i64]; omega
          have hw2 : IntKind.i64.wrap (nn + mm - 2) = nn + mm - 2 := by rw [IntKind.wrap_i64]; omega
          have hw3 : IntKind.i64.wrap (nn + mm - 1) = nn + mm - 1 := by rw [IntKind.wrap_i64]; omega
          clear hK hhv c1 c2 CP HBI HM3 HB5 hp23 pA pB
          have q_k1 := k1.cell
          rw [HL1.out] at q_k1
          ((try dsimp only); repeat (first | ((with_reducible (show wpList _ _ _ (List.append _ _) _ _)); simp only [List.append]) | go_values | go_skip | go_guarded | go_step | go_upon | go_back))
          clear q_k1
          refine (CPH.out _).mono ?_; rintro e v15 ⟨rfl, b⟩
          have BB := nx BB b
          have k1 := k1.next b
          clear b CPH
          have q_k1 := k1.cell
          rw [HL1.out] at q_k1
          ((try dsimp only); repeat (first | ((with_reducible (show wpList _ _ _ (List.append _ _) _ _)); simp only [List.append]) | go_values | go_skip | go_guarded | go_step | go_upon | go_back))
          clear q_k1
          refine (HBH.out _).mono ?_; rintro e _ ⟨rfl, rfl⟩
          have q_k1 := k1.cell
          rw [HL1.out] at q_k1
          ((try dsimp only); repeat (first | ((with_reducible (show wpList _ _ _ (List.append _ _) _ _)); simp only [List.append]) | go_values | go_skip | go_guarded | go_step | go_upon | go_back))
          clear q_k1
          have BB := below_drew BB
          have k1 := k1.drew
          refine wp_region_held_drew (S := (fun w' => w'.cell? ⟨v4.heap.size + 1, 0, none⟩ = some (.slice (some ⟨v4.heap.size, 0, none⟩) 1 1))) (by as_aux_lemma => kernel_rfl) (by have q := k1.cell; rw [HL1.out] at q; exact q) (fun hHeld => ?_)
          refine wpAnyH_take (i := 0) (v := ?_) rfl (by as_aux_lemma => kernel_rfl) (by as_aux_lemma => kernel_rfl) (by as_aux_lemma => kernel_rfl) (fun _ _ _ h => h) (Or.inl ⟨by first | kernel_rfl | rfl, ?_⟩) (by assumption) ?_
          rotate_left
          · intro w hSw
            (try dsimp only at hSw)
            (try go_split_ands)
            go_simp
            try with_reducible rfl
          (try simp only [Act.put, List.setIfInBounds_toArray, List.set_cons_zero, List.set_cons_succ])
          refine wpAnyH_take (i := 1) (v := ?_) rfl (by as_aux_lemma => kernel_rfl) (by as_aux_lemma => kernel_rfl) (by as_aux_lemma => kernel_rfl) (fun _ _ _ h => h) (Or.inl ⟨by first | kernel_rfl | rfl, ?_⟩) (by assumption) ?_
          rotate_left
          · intro w hSw
            (try dsimp only at hSw)
            (try go_split_ands)
            go_simp
            try with_reducible rfl
          (try simp only [Act.put, List.setIfInBounds_toArray, List.set_cons_zero, List.set_cons_succ])
          refine wpAnyH_take (i := 2) (v := ?_) rfl (by as_aux_lemma => kernel_rfl) (by as_aux_lemma => kernel_rfl) (by as_aux_lemma => kernel_rfl) (fun _ _ _ h => h) (Or.inl ⟨by first | kernel_rfl | rfl, ?_⟩) (by assumption) ?_
          rotate_left
          · intro w hSw
            (try dsimp only at hSw)
            (try go_split_ands)
            go_simp
            try with_reducible rfl
          (try simp only [Act.put, List.setIfInBounds_toArray, List.set_cons_zero, List.set_cons_succ])
          refine wpAnyH_take (i := 3) (v := ?_) rfl (by as_aux_lemma => kernel_rfl) (by as_aux_lemma => kernel_rfl) (by as_aux_lemma => kernel_rfl) (fun _ _ _ h => h) (Or.inl ⟨by first | kernel_rfl | rfl, ?_⟩) (by assumption) ?_
          rotate_left
          · intro w hSw
            (try dsimp only at hSw)
            (try go_split_ands)
            go_simp
            try with_reducible rfl
          (try simp only [Act.put, List.setIfInBounds_toArray, List.set_cons_zero, List.set_cons_succ])
          refine wpAnyH_ready (rs := [4]) (by as_aux_lemma => kernel_rfl) (by simp) ?_
          refine AllReadyH.cons rfl (fun K hK => ?_) AllReadyH.nil
          go_simp
          go_at_call 133
          refine (RSH.out _ k1.own).mono ?_; rintro e u ⟨R, rfl, hR1, hR2, b⟩
          have BB := nx BB b
          have k1 := k1.next b
          have CR := cntS_spec (some ⟨v4.heap.size, 0, none⟩) 1 os (R : Int) u k1.own (by rw [HL1.out]; omega)
          rw [HL1.out, HCR.out R hR1] at CR
          have HB7 := Lib.hid (HB6.out R hR1 hR2)
          obtain ⟨r, hr⟩ : ∃ q : Int, q = (popc R : Int) := ⟨_, rfl⟩
          rw [← hr] at CR HB7
          have CRH := Lib.hid CR
          clear b CR hr hR1 hR2 HB6
          refine hK.out _ _ (by have q := k1.cell; rw [HL1.out] at q; exact q) (fun hHeld => ?_)
          clear hK K
          (try simp only [Act.put, List.setIfInBounds_toArray, List.set_cons_zero, List.set_cons_succ])
          refine wpAnyH_ready (rs := [5]) (by as_aux_lemma => kernel_rfl) (by simp) ?_
          refine AllReadyH.cons rfl (fun K hK => ?_) AllReadyH.nil
          go_simp
          go_at_call 16
          refine CRH.out.mono ?_; rintro e u2 ⟨rfl, b⟩
          have BB := nx BB b
          have k1 := k1.next b
          clear b CRH
          refine hK.out _ _ (by have q := k1.cell; rw [HL1.out] at q; exact q) (fun hHeld => ?_)
          clear hK K
          (try simp only [Act.put, List.setIfInBounds_toArray, List.set_cons_zero, List.set_cons_succ])
          refine wpAnyH_take (i := 6) (v := ?_) rfl (by as_aux_lemma => kernel_rfl) (by as_aux_lemma => kernel_rfl) (by as_aux_lemma => kernel_rfl) (fun _ _ _ h => h) (Or.inl ⟨by first | kernel_rfl | rfl, ?_⟩) (by assumption) ?_
          rotate_left
          · intro w hSw
            (try dsimp only at hSw)
            (try go_split_ands)
            go_simp
            try with_reducible rfl
          (try simp only [Act.put, List.setIfInBounds_toArray, List.set_cons_zero, List.set_cons_succ])
          refine wpAnyH_done (by as_aux_lemma => kernel_rfl) ?_ _
          (try simp only [List.getElem_toArray, List.getElem_cons_succ, List.getElem_cons_zero, Act.put, List.setIfInBounds_toArray, List.set_cons_zero, List.set_cons_succ])
          clear RSH HCR
          by_cases hlt : nn + mm - 2 < p
          · obtain ⟨c1, c2, c3⟩ := C2.out hlt
            have hd : decide (nn + mm - 2 < p) = true := by simpa using hlt
            have c4 : ¬ K < 1 := by omega
            have c5 : ¬ p ≤ K := by omega
            have c6 : ¬ tt < nn + mm - 1 := by omega
            have c4b : decide (K < 1) = false := by simpa using c4
            have c5b : decide (p ≤ K) = false := by simpa using c5
            have c6b : decide (tt < nn + mm - 1) = false := by simpa using c6
            clear c1 c2 c3 C2
            rw [hd]
            have q_k1 := k1.cell
            rw [HL1.out] at q_k1
            ((try dsimp only); repeat (first | ((with_reducible (show wpList _ _ _ (List.append _ _) _ _)); simp only [List.append]) | go_values | go_skip | go_guarded | go_step | go_upon | go_back))
            clear q_k1
            refine (CSH.out _ k1.own).mono ?_; rintro e v16 ⟨rfl, b⟩
            have BB := nx BB b
            have k1 := k1.next b
            clear b CSH
            by_cases hnm : nn = mm
            · have hnb : (nn != mm) = false := by simp [hnm]
              by_cases hab : (A : Int) = (B : Int)
              · have habb : ((A : Int) == (B : Int)) = true := by rw [beq_iff_eq]; exact hab
                have hrh := HB7.out (Or.inr hab)
                have hrh2 : ¬ r < hv := by omega
                have hrh3 : decide (r < hv) = false := by simpa using hrh2
                clear hab HB7 hnm hrh
                ((try dsimp only); repeat (first | ((with_reducible (show wpList _ _ _ (List.append _ _) _ _)); simp only [List.append]) | go_values | go_skip | go_guarded | go_step | go_upon | go_back))
                go_meet
                exact BB
              · have habb : ((A : Int) == (B : Int)) = false := by rw [beq_eq_false_iff_ne]; exact hab
                clear hab HB7 hnm
                ((try dsimp only); repeat (first | ((with_reducible (show wpList _ _ _ (List.append _ _) _ _)); simp only [List.append]) | go_values | go_skip | go_guarded | go_step | go_upon | go_back))
                go_meet
                exact BB
            · have hnb : (nn != mm) = true := by simp [hnm]
              have hrh := HB7.out (Or.inl hnm)
              have hrh2 : ¬ r < hv := by omega
              have hrh3 : decide (r < hv) = false := by simpa using hrh2
              clear HB7 hnm hrh
              ((try dsimp only); repeat (first | ((with_reducible (show wpList _ _ _ (List.append _ _) _ _)); simp only [List.append]) | go_values | go_skip | go_guarded | go_step | go_upon | go_back))
              go_meet
              exact BB
          · have hd : decide (nn + mm - 2 < p) = false := by simpa using hlt
            clear C2 CSH
            rw [hd]
            by_cases hnm : nn = mm
            · have hnb : (nn != mm) = false := by simp [hnm]
              by_cases hab : (A : Int) = (B : Int)
              · have habb : ((A : Int) == (B : Int)) = true := by rw [beq_iff_eq]; exact hab
                have hrh := HB7.out (Or.inr hab)
                have hrh2 : ¬ r < hv := by omega
                have hrh3 : decide (r < hv) = false := by simpa using hrh2
                clear hab HB7 hnm hrh
                ((try dsimp only); repeat (first | ((with_reducible (show wpList _ _ _ (List.append _ _) _ _)); simp only [List.append]) | go_values | go_skip | go_guarded | go_step | go_upon | go_back))
                go_meet
                exact BB
              · have habb : ((A : Int) == (B : Int)) = false := by rw [beq_eq_false_iff_ne]; exact hab
                clear hab HB7 hnm
                ((try dsimp only); repeat (first | ((with_reducible (show wpList _ _ _ (List.append _ _) _ _)); simp only [List.append]) | go_values | go_skip | go_guarded | go_step | go_upon | go_back))
                go_meet
                exact BB
            · have hnb : (nn != mm) = true := by simp [hnm]
              have hrh := HB7.out (Or.inl hnm)
              have hrh2 : ¬ r < hv := by omega
              have hrh3 : decide (r < hv) = false := by simpa using hrh2
              clear HB7 hnm hrh
              ((try dsimp only); repeat (first | ((with_reducible (show wpList _ _ _ (List.append _ _) _ _)); simp only [List.append]) | go_values | go_skip | go_guarded | go_step | go_upon | go_back))
              go_meet
              exact BB
        · have hmz : mm ≤ 0 := by omega
          have hmb1 : decide (0 < mm) = false := by simpa using hmz
          clear HM3 HB5 hm1
          ((try dsimp only); repeat (first | ((with_reducible (show wpList _ _ _ (List.append _ _) _ _)); simp only [List.append]) | go_values | go_skip | go_guarded | go_step | go_upon | go_back))
          go_meet
          exact BB
      · have hnz : nn ≤ 0 := by omega
        have hnb1 : decide (0 < nn) = false := by simpa using hnz
        clear HM3 HB5 hn1
        ((try dsimp only); repeat (first | ((with_reducible (show wpList _ _ _ (List.append _ _) _ _)); simp only [List.append]) | go_values | go_skip | go_guarded | go_step | go_upon | go_back))
        go_meet
        exact BB
    | false =>
      clear k1
      clear CF HHB HV SO CN RS
      ((try dsimp only); repeat (first | ((with_reducible (show wpList _ _ _ (List.append _ _) _ _)); simp only [List.append]) | go_values | go_skip | go_guarded | go_step | go_upon | go_back))
      go_meet
      exact BB
  case rest =>
  clear k1
  have BB := hcut
  clear hcut CF HHB HV SO CN RS
  ((try dsimp only); repeat (first | ((with_reducible (show wpList _ _ _ (List.append _ _) _ _)); simp only [List.append]) | go_values | go_skip | go_guarded | go_step | go_upon | go_back))
  have g := HB.out.below BB (Nat.le_refl _)
  refine (dCoefficient_any a cap n wc g hn).mono ?_; rintro e v17 ⟨d1, d2, d3, d4, rfl, b⟩
  have BB := nx BB b
  clear b g
  have V1 := Lib.hid (cov_impl d1 d2 d3 d4)
  have V2 := Lib.hid (cov_spec d1 d2 d3 d4)
  obtain ⟨cv, hcv⟩ : ∃ q, q = cov d1 d2 d3 d4 := ⟨_, rfl⟩
  rw [← hcv] at V1 V2
  clear hcv
  ((try dsimp only); repeat (first | ((with_reducible (show wpList _ _ _ (List.append _ _) _ _)); simp only [List.append]) | go_values | go_skip | go_guarded | go_step | go_upon | go_back))
  have g := HB.out.below BB (Nat.le_refl _)
  refine (dBinomial_any a cap n v17 g hn).mono ?_; rintro e v18 ⟨i, j, k, rfl, hi, hj, hk, b⟩
  have BB := nx BB b
  clear b g
  have Y1 := Lib.hid (bm_impl i j k)
  have Y2 := Lib.hid (bm_spec i j k)
  have Y3 := Lib.hid (bm_impl i (i - j) k)
  have YS := Lib.hid (@bmv_sym i j k)
  have hwi : IntKind.i64.wrap (i - j) = i - j := by rw [IntKind.wrap_i64]; omega
  obtain ⟨yv, hyv⟩ : ∃ q, q = bmv i j k := ⟨_, rfl⟩
  obtain ⟨yw, hyw⟩ : ∃ q, q = bmv i (i - j) k := ⟨_, rfl⟩
  rw [← hyv] at Y1 Y2 YS
  rw [← hyw] at Y3 YS
  clear hyv hyw hi hj hk
  ((try dsimp only); repeat (first | ((with_reducible (show wpList _ _ _ (List.append _ _) _ _)); simp only [List.append]) | go_values | go_skip | go_guarded | go_step | go_upon | go_back))
  have g := HB.out.below BB (Nat.le_refl _)
  refine (dDistinct_any a cap n v18 g hn).mono ?_; rintro e v19 ⟨l, m, q, rfl, hl, hm, hq, b⟩
  have BB := nx BB b
  clear b g
  have Q1 := Lib.hid (dcv_impl l m q)
  have Q2 := Lib.hid (dcv_spec l m q)
  obtain ⟨dv, hdv⟩ : ∃ v, v = dcv l m q := ⟨_, rfl⟩
  rw [← hdv] at Q1 Q2
  clear hdv hl hm hq
  ((try dsimp only); repeat (first | ((with_reducible (show wpList _ _ _ (List.append _ _) _ _)); simp only [List.append]) | go_values | go_skip | go_guarded | go_step | go_upon | go_back))
  have g := HB.out.below BB (Nat.le_refl _)
  refine (dCauchy_any a cap n v19 g hn).mono ?_; rintro e v20 ⟨o, r, s, rfl, ho, hr, hs, b⟩
  have BB := nx BB b
  clear b g
  have R1 := Lib.hid (cp_impl o r s)
  have R2 := Lib.hid (cp_spec o r s)
  obtain ⟨kv, hkv⟩ : ∃ q, q = cpV o r s := ⟨_, rfl⟩
  obtain ⟨kb, hkb⟩ : ∃ q, q = cpB o r s := ⟨_, rfl⟩
  rw [← hkv, ← hkb] at R1 R2
  clear hkv hkb ho hr hs
  ((try dsimp only); repeat (first | ((with_reducible (show wpList _ _ _ (List.append _ _) _ _)); simp only [List.append]) | go_values | go_skip | go_guarded | go_step | go_upon | go_back))
  refine (R1.out _).mono ?_; rintro e v21 ⟨rfl, b⟩
  have BB := nx BB b
  clear b R1
  ((try dsimp only); repeat (first | ((with_reducible (show wpList _ _ _ (List.append _ _) _ _)); simp only [List.append]) | go_values | go_skip | go_guarded | go_step | go_upon | go_back))
  refine (R2.out _).mono ?_; rintro e v22 ⟨rfl, b⟩
  have BB := nx BB b
  clear b R2
  ((try dsimp only); repeat (first | ((with_reducible (show wpList _ _ _ (List.append _ _) _ _)); simp only [List.append]) | go_values | go_skip | go_guarded | go_step | go_upon | go_back))
  have g := HB.out.below BB (Nat.le_refl _)
  refine (dHeilbronn_any a cap n v22 g hn).mono ?_; rintro e v23 ⟨u1, u2, u3, rfl, hu1, hu2, hu3, b⟩
  have BB := nx BB b
  clear b g
  have T1 := Lib.hid (hb_impl u1 u2 u3)
  have T2 := Lib.hid (hb_spec u1 u2 u3)
  obtain ⟨hv, hhv⟩ : ∃ q, q = hbv u1 u2 u3 := ⟨_, rfl⟩
  rw [← hhv] at T1 T2
  clear hhv hu1 hu2 hu3
  ((try dsimp only); repeat (first | ((with_reducible (show wpList _ _ _ (List.append _ _) _ _)); simp only [List.append]) | go_values | go_skip | go_guarded | go_step | go_upon | go_back))
  refine (Y1.out _).mono ?_; rintro e v24 ⟨rfl, b⟩
  have BB := nx BB b
  clear b Y1
  ((try dsimp only); repeat (first | ((with_reducible (show wpList _ _ _ (List.append _ _) _ _)); simp only [List.append]) | go_values | go_skip | go_guarded | go_step | go_upon | go_back))
  refine (V1.out _).mono ?_; rintro e v25 ⟨rfl, b⟩
  have BB := nx BB b
  clear b V1
  ((try dsimp only); repeat (first | ((with_reducible (show wpList _ _ _ (List.append _ _) _ _)); simp only [List.append]) | go_values | go_skip | go_guarded | go_step | go_upon | go_back))
  refine (V2.out _).mono ?_; rintro e v26 ⟨rfl, b⟩
  have BB := nx BB b
  clear b V2
  ((try dsimp only); repeat (first | ((with_reducible (show wpList _ _ _ (List.append _ _) _ _)); simp only [List.append]) | go_values | go_skip | go_guarded | go_step | go_upon | go_back))
  refine (Y2.out _).mono ?_; rintro e v27 ⟨rfl, b⟩
  have BB := nx BB b
  clear b Y2
  by_cases hy0 : yv < 0
  · clear Y3 YS
    have hyb : decide (yv < 0) = true := by simpa using hy0
    ((try dsimp only); repeat (first | ((with_reducible (show wpList _ _ _ (List.append _ _) _ _)); simp only [List.append]) | go_values | go_skip | go_guarded | go_step | go_upon | go_back))
    refine (Q1.out _).mono ?_; rintro e v28 ⟨rfl, b⟩
    have BB := nx BB b
    clear b Q1
    ((try dsimp only); repeat (first | ((with_reducible (show wpList _ _ _ (List.append _ _) _ _)); simp only [List.append]) | go_values | go_skip | go_guarded | go_step | go_upon | go_back))
    refine (Q2.out _).mono ?_; rintro e v29 ⟨rfl, b⟩
    have BB := nx BB b
    clear b Q2
    ((try dsimp only); repeat (first | ((with_reducible (show wpList _ _ _ (List.append _ _) _ _)); simp only [List.append]) | go_values | go_skip | go_guarded | go_step | go_upon | go_back))
    refine (T1.out _).mono ?_; rintro e _ ⟨rfl, rfl⟩
    ((try dsimp only); repeat (first | ((with_reducible (show wpList _ _ _ (List.append _ _) _ _)); simp only [List.append]) | go_values | go_skip | go_guarded | go_step | go_upon | go_back))
    refine (T2.out _).mono ?_; rintro e _ ⟨rfl, rfl⟩
    ((try dsimp only); repeat (first | ((with_reducible (show wpList _ _ _ (List.append _ _) _ _)); simp only [List.append]) | go_values | go_skip | go_guarded | go_step | go_upon | go_back))
    go_ret
    exact ⟨ret_bool (by simp), BB⟩
  · have e := YS.out (by omega)
    have hyb : decide (yv < 0) = false := by simpa using hy0
    rw [e] at Y3
    clear YS e
    ((try dsimp only); repeat (first | ((with_reducible (show wpList _ _ _ (List.append _ _) _ _)); simp only [List.append]) | go_values | go_skip | go_guarded | go_step | go_upon | go_back))
    refine (Y3.out _).mono ?_; rintro e v30 ⟨rfl, b⟩
    have BB := nx BB b
    clear b Y3
    ((try dsimp only); repeat (first | ((with_reducible (show wpList _ _ _ (List.append _ _) _ _)); simp only [List.append]) | go_values | go_skip | go_guarded | go_step | go_upon | go_back))
    refine (Q1.out _).mono ?_; rintro e v31 ⟨rfl, b⟩
    have BB := nx BB b
    clear b Q1
    ((try dsimp only); repeat (first | ((with_reducible (show wpList _ _ _ (List.append _ _) _ _)); simp only [List.append]) | go_values | go_skip | go_guarded | go_step | go_upon | go_back))
    refine (Q2.out _).mono ?_; rintro e v32 ⟨rfl, b⟩
    have BB := nx BB b
    clear b Q2
    ((try dsimp only); repeat (first | ((with_reducible (show wpList _ _ _ (List.append _ _) _ _)); simp only [List.append]) | go_values | go_skip | go_guarded | go_step | go_upon | go_back))
    refine (T1.out _).mono ?_; rintro e _ ⟨rfl, rfl⟩
    ((try dsimp only); repeat (first | ((with_reducible (show wpList _ _ _ (List.append _ _) _ _)); simp only [List.append]) | go_values | go_skip | go_guarded | go_step | go_upon | go_back))
    refine (T2.out _).mono ?_; rintro e _ ⟨rfl, rfl⟩
    ((try dsimp only); repeat (first | ((with_reducible (show wpList _ _ _ (List.append _ _) _ _)); simp only [List.append]) | go_values | go_skip | go_guarded | go_step | go_upon | go_back))
    go_ret
    exact ⟨ret_bool (by simp), BB⟩

end Go.Proofs.Ytbidkjhgodkamaa
