/-
Automorphisms keep sums, canonical sets do not depend on them or on shifts, and classes are counted. No condition.
-/
import Derived.Test.YtokpgbpdmfibjaaAuw
import Derived.Test.YtokpgbpdmfibjaaDrw12
import Derived.Test.YtokpgbpdmfibjaaCcl
import Derived.Test.YtokpgbpdmfibjaaKep
import Derived.Test.YtokpgbpdmfibjaaOpb
import Derived.Test.YtokpgbpdmfibjaaSmi
import Derived.Test.YtokpgbpdmfibjaaSml
import Derived.Test.YtokpgbpdmfibjaaAt
import Derived.Deep.CutRange
namespace Go.Proofs.Ytokpgbpdmfibjaa
open Go.ChangeShapes Go.RowKit
set_option linter.unusedVariables false
set_option linter.unusedSimpArgs false

theorem RdR.drewI {w : World} {a : Option Addr} {n : Nat} {R : Nat → List Int} {vs : List Value} (h : RdR w a n R vs) : RdR w.drew a n R vs := ⟨h.cells, h.row⟩
theorem tmod_nat (x n : Nat) (h : 0 < n) : ((x : Int)).tmod (n : Int) = ((x % n : Nat) : Int) := by rw [Int.tmod_eq_emod_of_nonneg (by omega)]; rfl
set_option maxRecDepth 20000 in
set_option maxHeartbeats 40000000 in
theorem walk_fnAutomorphisms (a : Option Addr) (cap n : Nat) (w : World) (hb : BtS w a cap n) :
    Calls Try.prog 3 #[.slice a n cap] w fun e w' => e = .returned (.bool true) ∧ Below w.heap.size w w' := by
  by_cases hbig : 1048576 < n
  · have hbg : decide (1048576 < n) = true := by simpa using hbig
    have C0 := big_any a cap n w
    rw [hbg] at C0
    go_enter Try.func3, Try.ntmps3
    ((try dsimp only); repeat (first | ((with_reducible (show wpList _ _ _ (List.append _ _) _ _)); simp only [List.append]) | go_values | go_skip | go_guarded | go_step | go_upon | go_back))
    refine C0.mono ?_; rintro e w1 ⟨rfl, b1⟩
    ((try dsimp only); repeat (first | ((with_reducible (show wpList _ _ _ (List.append _ _) _ _)); simp only [List.append]) | go_values | go_skip | go_guarded | go_step | go_upon | go_back))
    go_ret
    exact ⟨rfl, b1⟩
  have hn : n ≤ 2000000 := by omega
  have hbg : decide (1048576 < n) = false := by simpa using hbig
  have C0 := Lib.hid (big_any a cap n w)
  rw [hbg] at C0
  have HB := Lib.hid hb
  clear hbg hbig hb
  go_enter Try.func3, Try.ntmps3
  ((try dsimp only); repeat (first | ((with_reducible (show wpList _ _ _ (List.append _ _) _ _)); simp only [List.append]) | go_values | go_skip | go_guarded | go_step | go_upon | go_back))
  refine C0.out.mono ?_; rintro e v1 ⟨rfl, b⟩
  have BB := b
  clear C0 b
  ((try dsimp only); repeat (first | ((with_reducible (show wpList _ _ _ (List.append _ _) _ _)); simp only [List.append]) | go_values | go_skip | go_guarded | go_step | go_upon | go_back))
  have g := HB.out.below BB (Nat.le_refl _)
  refine (dAuts_any a cap n v1 g hn).mono ?_; rintro e v2 ⟨os, ag, cg, rfl, hol, og, b⟩
  have BB := nx BB b
  have k1 := KS.start og
  have al := below_alloc v2 (.cells #[.slice ag os.length cg] 26)
  have BB := nx BB al
  obtain ⟨v3, hwa⟩ : ∃ W, W = v2.alloc (.cells #[.slice ag os.length cg] 26) := ⟨_, rfl⟩
  rw [← hwa] at BB  k1
  have H_v3 := Lib.hid hwa
  clear hwa al b g og
  have A1 := Lib.hid (fun w h => ats_impl ag cg os w h (by omega))
  have A2 := Lib.hid (fun w h => ats_spec ag cg os w h (by omega))
  have N1 := Lib.hid (fun w h => cat_impl ag cg os w h (by omega))
  have N2 := Lib.hid (fun w h => cat_spec ag cg os w h (by omega))
  have hFl := atL_len os
  have HBG : Hid (atB os = true → grpB os = true ∧ 0 < (atL os).length) := Lib.hid (fun h => by
    have hg : grpB os = true := by simp only [atB, Bool.and_eq_true] at h; exact h.1
    rw [show atL os = autL os by simp [atL, h]]
    exact ⟨hg, autL_pos hg⟩)
  have HAF : Hid (atB os = true → ∀ i, i < (atL os).length → autB os ((atL os).getD i []) = true) := Lib.hid (fun h i hi => by
    have e : atL os = autL os := by simp [atL, h]
    rw [e] at hi ⊢
    exact autL_mem hi)
  have hFr : ∀ i, ((atL os).getD i []).length ≤ 1000000 := fun i => by
    by_cases hb : atB os = true
    · by_cases hi : i < (atL os).length
      · have e : atL os = autL os := by simp [atL, hb]
        rw [e] at hi ⊢
        obtain ⟨-, -, h3, -, -⟩ := aut_parts (autL_mem hi)
        have := h3.1
        omega
      · rw [List.getD_eq_getElem?_getD, List.getElem?_eq_none (Nat.le_of_not_lt hi)]; simp
    · rw [show atL os = [] by simp [atL, hb]]; simp
  have hcn : ∃ q : Int, q = catV os := ⟨_, rfl⟩
  obtain ⟨F, hF⟩ : ∃ F, F = atL os := ⟨_, rfl⟩
  obtain ⟨fb, hfb⟩ : ∃ b, b = atB os := ⟨_, rfl⟩
  obtain ⟨cn, hcn⟩ := hcn
  rw [← hF, ← hfb] at A1 A2 HBG HAF
  rw [← hF] at hFl hFr
  rw [← hcn] at N1 N2
  have SL := Lib.hid (fun a0 a1 c0 c1 us vs w h0 h1 => sameLists_refl a0 a1 c0 c1 F.length (fun i => F.getD i []) us vs w h0 h1 (by omega) hFr)
  have HFB := Lib.hid hfb
  clear hF hfb hcn hFr
  have q_k1 := k1.cell
  ((try dsimp only); repeat (first | ((with_reducible (show wpList _ _ _ (List.append _ _) _ _)); simp only [List.append]) | go_values | go_skip | go_guarded | go_step | go_upon | go_back))
  clear q_k1
  rw [← H_v3.out]
  refine (A1.out _ k1.own).mono ?_; rintro e v4 ⟨a1, c1, vs1, rfl, o1, b⟩
  have BB := nx BB b
  have k1 := k1.next b
  clear b A1
  have r1 := o1.rd
  clear o1
  have q_k1 := k1.cell
  ((try dsimp only); repeat (first | ((with_reducible (show wpList _ _ _ (List.append _ _) _ _)); simp only [List.append]) | go_values | go_skip | go_guarded | go_step | go_upon | go_back))
  clear q_k1
  refine (A2.out _ k1.own).mono ?_; rintro e v5 ⟨a2, c2, vs2, rfl, o2, b⟩
  have BB := nx BB b
  have k1 := k1.next b
  have r1 := r1.below b (Nat.le_refl _)
  clear b A2
  have r2 := o2.rd
  clear o2
  go_upto_region 6 with fail
  go_cut [71] from 34 to 71 (fun s71 wx => s71 = .bool false ∧ Below w.heap.size w wx ∧ KS v2.heap.size ag cg os wx ∧ RdR wx a2 F.length (fun i => F.getD i []) vs2)
  case first =>
    cases fb with
    | true =>
      obtain ⟨hgB, hF0⟩ := HBG.out rfl
      have hF1 : ¬ ((F.length : Int) < 1) := by omega
      have hF2 : decide ((F.length : Int) < 1) = false := by simpa using hF1
      clear hgB
      have BB := below_drew BB
      have k1 := k1.drew
      have r1 := r1.drewI
      have r2 := r2.drewI
      refine wp_region_held_drew (S := (fun w' => w'.cell? ⟨v2.heap.size, 0, none⟩ = some (.slice ag os.length cg))) (by as_aux_lemma => kernel_rfl) k1.cell (fun hHeld => ?_)
      refine wpAnyH_take (i := 0) (v := ?_) rfl (by as_aux_lemma => kernel_rfl) (by as_aux_lemma => kernel_rfl) (by as_aux_lemma => kernel_rfl) (fun _ _ _ h => h) (Or.inl ⟨by first | kernel_rfl | rfl, ?_⟩) (by assumption) ?_
      rotate_left
      · intro w hSw
        (try dsimp only at hSw)
        (try go_split_ands)
        go_simp
        try with_reducible rfl
      (try simp only [Act.put, List.setIfInBounds_toArray, List.set_cons_zero, List.set_cons_succ])
      refine wpAnyH_take (i := 1) (v := ?_) rfl (by as_aux_lemma => kernel_rfl) (by as_aux_lemma => kernel_rfl) (by as_aux_lemma => kernel_rfl) (fun _ _ _ h => h) (Or.inl ⟨by first | kernel_rfl | rfl, ?_⟩) (by assumption) ?_
      rotate_left
      · intro w hSw
        (try dsimp only at hSw)
        (try go_split_ands)
        go_simp
        try with_reducible rfl
      (try simp only [Act.put, List.setIfInBounds_toArray, List.set_cons_zero, List.set_cons_succ])
      refine wpAnyH_take (i := 2) (v := ?_) rfl (by as_aux_lemma => kernel_rfl) (by as_aux_lemma => kernel_rfl) (by as_aux_lemma => kernel_rfl) (fun _ _ _ h => h) (Or.inl ⟨by first | kernel_rfl | rfl, ?_⟩) (by assumption) ?_
      rotate_left
      · intro w hSw
        (try dsimp only at hSw)
        (try go_split_ands)
        go_simp
        try with_reducible rfl
      (try simp only [Act.put, List.setIfInBounds_toArray, List.set_cons_zero, List.set_cons_succ])
      refine wpAnyH_take (i := 3) (v := ?_) rfl (by as_aux_lemma => kernel_rfl) (by as_aux_lemma => kernel_rfl) (by as_aux_lemma => kernel_rfl) (fun _ _ _ h => h) (Or.inl ⟨by first | kernel_rfl | rfl, ?_⟩) (by assumption) ?_
      rotate_left
      · intro w hSw
        (try dsimp only at hSw)
        (try go_split_ands)
        go_simp
        try with_reducible rfl
      (try simp only [Act.put, List.setIfInBounds_toArray, List.set_cons_zero, List.set_cons_succ])
      refine wpAnyH_take (i := 4) (v := ?_) rfl (by as_aux_lemma => kernel_rfl) (by as_aux_lemma => kernel_rfl) (by as_aux_lemma => kernel_rfl) (fun _ _ _ h => h) (Or.inl ⟨by first | kernel_rfl | rfl, ?_⟩) (by assumption) ?_
      rotate_left
      · intro w hSw
        (try dsimp only at hSw)
        (try go_split_ands)
        go_simp
        try with_reducible rfl
      (try simp only [Act.put, List.setIfInBounds_toArray, List.set_cons_zero, List.set_cons_succ])
      refine wpAnyH_take (i := 5) (v := ?_) rfl (by as_aux_lemma => kernel_rfl) (by as_aux_lemma => kernel_rfl) (by as_aux_lemma => kernel_rfl) (fun _ _ _ h => h) (Or.inl ⟨by first | kernel_rfl | rfl, ?_⟩) (by assumption) ?_
      rotate_left
      · intro w hSw
        (try dsimp only at hSw)
        (try go_split_ands)
        go_simp
        try with_reducible rfl
      (try simp only [Act.put, List.setIfInBounds_toArray, List.set_cons_zero, List.set_cons_succ])
      refine wpAnyH_ready (rs := [6]) (by as_aux_lemma => kernel_rfl) (by simp) ?_
      refine AllReadyH.cons rfl (fun K hK => ?_) AllReadyH.nil
      go_simp
      go_at_call 10
      refine (SL.out _ _ _ _ _ _ _ r1 r2).mono ?_; rintro e u ⟨rfl, b⟩
      have BB := nx BB b
      have k1 := k1.next b
      have r1 := r1.below b (Nat.le_refl _)
      have r2 := r2.below b (Nat.le_refl _)
      clear b
      refine hK.out _ _ k1.cell (fun hHeld => ?_)
      clear hK K
      (try simp only [Act.put, List.setIfInBounds_toArray, List.set_cons_zero, List.set_cons_succ])
      refine wpAnyH_take (i := 7) (v := ?_) rfl (by as_aux_lemma => kernel_rfl) (by as_aux_lemma => kernel_rfl) (by as_aux_lemma => kernel_rfl) (fun _ _ _ h => h) (Or.inl ⟨by first | kernel_rfl | rfl, ?_⟩) (by assumption) ?_
      rotate_left
      · intro w hSw
        (try dsimp only at hSw)
        (try go_split_ands)
        go_simp
        try with_reducible rfl
      (try simp only [Act.put, List.setIfInBounds_toArray, List.set_cons_zero, List.set_cons_succ])
      refine wpAnyH_take (i := 8) (v := ?_) rfl (by as_aux_lemma => kernel_rfl) (by as_aux_lemma => kernel_rfl) (by as_aux_lemma => kernel_rfl) (fun _ _ _ h => h) (Or.inl ⟨by first | kernel_rfl | rfl, ?_⟩) (by assumption) ?_
      rotate_left
      · intro w hSw
        (try dsimp only at hSw)
        (try go_split_ands)
        go_simp
        try with_reducible rfl
      (try simp only [Act.put, List.setIfInBounds_toArray, List.set_cons_zero, List.set_cons_succ])
      refine wpAnyH_take (i := 9) (v := ?_) rfl (by as_aux_lemma => kernel_rfl) (by as_aux_lemma => kernel_rfl) (by as_aux_lemma => kernel_rfl) (fun _ _ _ h => h) (Or.inl ⟨by first | kernel_rfl | rfl, ?_⟩) (by assumption) ?_
      rotate_left
      · intro w hSw
        (try dsimp only at hSw)
        (try go_split_ands)
        go_simp
        try with_reducible rfl
      (try simp only [Act.put, List.setIfInBounds_toArray, List.set_cons_zero, List.set_cons_succ])
      refine wpAnyH_take (i := 10) (v := ?_) rfl (by as_aux_lemma => kernel_rfl) (by as_aux_lemma => kernel_rfl) (by as_aux_lemma => kernel_rfl) (fun _ _ _ h => h) (Or.inl ⟨by first | kernel_rfl | rfl, ?_⟩) (by assumption) ?_
      rotate_left
      · intro w hSw
        (try dsimp only at hSw)
        (try go_split_ands)
        go_simp
        try with_reducible rfl
      (try simp only [Act.put, List.setIfInBounds_toArray, List.set_cons_zero, List.set_cons_succ])
      refine wpAnyH_take (i := 12) (v := ?_) rfl (by as_aux_lemma => kernel_rfl) (by as_aux_lemma => kernel_rfl) (by as_aux_lemma => kernel_rfl) (fun _ _ _ h => h) (Or.inl ⟨by first | kernel_rfl | rfl, ?_⟩) (by assumption) ?_
      rotate_left
      · intro w hSw
        (try dsimp only at hSw)
        (try go_split_ands)
        go_simp
        try with_reducible rfl
      (try simp only [Act.put, List.setIfInBounds_toArray, List.set_cons_zero, List.set_cons_succ])
      refine wpAnyH_ready (rs := [11]) (by as_aux_lemma => kernel_rfl) (by simp) ?_
      refine AllReadyH.cons rfl (fun K hK => ?_) AllReadyH.nil
      go_simp
      go_at_call 11
      refine (N1.out _ k1.own).mono ?_; rintro e u ⟨rfl, b⟩
      have BB := nx BB b
      have k1 := k1.next b
      have r1 := r1.below b (Nat.le_refl _)
      have r2 := r2.below b (Nat.le_refl _)
      clear b
      refine hK.out _ _ k1.cell (fun hHeld => ?_)
      clear hK K
      (try simp only [Act.put, List.setIfInBounds_toArray, List.set_cons_zero, List.set_cons_succ])
      refine wpAnyH_ready (rs := [13]) (by as_aux_lemma => kernel_rfl) (by simp) ?_
      refine AllReadyH.cons rfl (fun K hK => ?_) AllReadyH.nil
      go_simp
      go_at_call 12
      refine (N2.out _ k1.own).mono ?_; rintro e u ⟨rfl, b⟩
      have BB := nx BB b
      have k1 := k1.next b
      have r1 := r1.below b (Nat.le_refl _)
      have r2 := r2.below b (Nat.le_refl _)
      clear b
      refine hK.out _ _ k1.cell (fun hHeld => ?_)
      clear hK K
      (try simp only [Act.put, List.setIfInBounds_toArray, List.set_cons_zero, List.set_cons_succ])
      refine wpAnyH_take (i := 14) (v := ?_) rfl (by as_aux_lemma => kernel_rfl) (by as_aux_lemma => kernel_rfl) (by as_aux_lemma => kernel_rfl) (fun _ _ _ h => h) (Or.inl ⟨by first | kernel_rfl | rfl, ?_⟩) (by assumption) ?_
      rotate_left
      · intro w hSw
        (try dsimp only at hSw)
        (try go_split_ands)
        go_simp
        try with_reducible rfl
      (try simp only [Act.put, List.setIfInBounds_toArray, List.set_cons_zero, List.set_cons_succ])
      refine wpAnyH_take (i := 15) (v := ?_) rfl (by as_aux_lemma => kernel_rfl) (by as_aux_lemma => kernel_rfl) (by as_aux_lemma => kernel_rfl) (fun _ _ _ h => h) (Or.inl ⟨by first | kernel_rfl | rfl, ?_⟩) (by assumption) ?_
      rotate_left
      · intro w hSw
        (try dsimp only at hSw)
        (try go_split_ands)
        go_simp
        try with_reducible rfl
      (try simp only [Act.put, List.setIfInBounds_toArray, List.set_cons_zero, List.set_cons_succ])
      refine wpAnyH_take (i := 16) (v := ?_) rfl (by as_aux_lemma => kernel_rfl) (by as_aux_lemma => kernel_rfl) (by as_aux_lemma => kernel_rfl) (fun _ _ _ h => h) (Or.inl ⟨by first | kernel_rfl | rfl, ?_⟩) (by assumption) ?_
      rotate_left
      · intro w hSw
        (try dsimp only at hSw)
        (try go_split_ands)
        go_simp
        try with_reducible rfl
      (try simp only [Act.put, List.setIfInBounds_toArray, List.set_cons_zero, List.set_cons_succ])
      refine wpAnyH_take (i := 17) (v := ?_) rfl (by as_aux_lemma => kernel_rfl) (by as_aux_lemma => kernel_rfl) (by as_aux_lemma => kernel_rfl) (fun _ _ _ h => h) (Or.inl ⟨by first | kernel_rfl | rfl, ?_⟩) (by assumption) ?_
      rotate_left
      · intro w hSw
        (try dsimp only at hSw)
        (try go_split_ands)
        go_simp
        try with_reducible rfl
      (try simp only [Act.put, List.setIfInBounds_toArray, List.set_cons_zero, List.set_cons_succ])
      refine wpAnyH_take (i := 18) (v := ?_) rfl (by as_aux_lemma => kernel_rfl) (by as_aux_lemma => kernel_rfl) (by as_aux_lemma => kernel_rfl) (fun _ _ _ h => h) (Or.inl ⟨by first | kernel_rfl | rfl, ?_⟩) (by assumption) ?_
      rotate_left
      · intro w hSw
        (try dsimp only at hSw)
        (try go_split_ands)
        go_simp
        try with_reducible rfl
      (try simp only [Act.put, List.setIfInBounds_toArray, List.set_cons_zero, List.set_cons_succ])
      refine wpAnyH_take (i := 19) (v := ?_) rfl (by as_aux_lemma => kernel_rfl) (by as_aux_lemma => kernel_rfl) (by as_aux_lemma => kernel_rfl) (fun _ _ _ h => h) (Or.inl ⟨by first | kernel_rfl | rfl, ?_⟩) (by assumption) ?_
      rotate_left
      · intro w hSw
        (try dsimp only at hSw)
        (try go_split_ands)
        go_simp
        try with_reducible rfl
      (try simp only [Act.put, List.setIfInBounds_toArray, List.set_cons_zero, List.set_cons_succ])
      refine wpAnyH_take (i := 20) (v := ?_) rfl (by as_aux_lemma => kernel_rfl) (by as_aux_lemma => kernel_rfl) (by as_aux_lemma => kernel_rfl) (fun _ _ _ h => h) (Or.inl ⟨by first | kernel_rfl | rfl, ?_⟩) (by assumption) ?_
      rotate_left
      · intro w hSw
        (try dsimp only at hSw)
        (try go_split_ands)
        go_simp
        try with_reducible rfl
      (try simp only [Act.put, List.setIfInBounds_toArray, List.set_cons_zero, List.set_cons_succ])
      refine wpAnyH_take (i := 21) (v := ?_) rfl (by as_aux_lemma => kernel_rfl) (by as_aux_lemma => kernel_rfl) (by as_aux_lemma => kernel_rfl) (fun _ _ _ h => h) (Or.inl ⟨by first | kernel_rfl | rfl, ?_⟩) (by assumption) ?_
      rotate_left
      · intro w hSw
        (try dsimp only at hSw)
        (try go_split_ands)
        go_simp
        try with_reducible rfl
      (try simp only [Act.put, List.setIfInBounds_toArray, List.set_cons_zero, List.set_cons_succ])
      refine wpAnyH_take (i := 22) (v := ?_) rfl (by as_aux_lemma => kernel_rfl) (by as_aux_lemma => kernel_rfl) (by as_aux_lemma => kernel_rfl) (fun _ _ _ h => h) (Or.inl ⟨by first | kernel_rfl | rfl, ?_⟩) (by assumption) ?_
      rotate_left
      · intro w hSw
        (try dsimp only at hSw)
        (try go_split_ands)
        go_simp
        try with_reducible rfl
      (try simp only [Act.put, List.setIfInBounds_toArray, List.set_cons_zero, List.set_cons_succ])
      refine wpAnyH_take (i := 23) (v := ?_) rfl (by as_aux_lemma => kernel_rfl) (by as_aux_lemma => kernel_rfl) (by as_aux_lemma => kernel_rfl) (fun _ _ _ h => h) (Or.inl ⟨by first | kernel_rfl | rfl, ?_⟩) (by assumption) ?_
      rotate_left
      · intro w hSw
        (try dsimp only at hSw)
        (try go_split_ands)
        go_simp
        try with_reducible rfl
      (try simp only [Act.put, List.setIfInBounds_toArray, List.set_cons_zero, List.set_cons_succ])
      refine wpAnyH_done (by as_aux_lemma => kernel_rfl) ?_ _
      (try simp only [List.getElem_toArray, List.getElem_cons_succ, List.getElem_cons_zero, Act.put, List.setIfInBounds_toArray, List.set_cons_zero, List.set_cons_succ])
      ((try dsimp only); repeat (first | ((with_reducible (show wpList _ _ _ (List.append _ _) _ _)); simp only [List.append]) | go_values | go_skip | go_guarded | go_step | go_upon | go_back))
      go_meet
      exact ⟨rfl, BB, k1, r2⟩
    | false =>
      have BB := below_drew BB
      have k1 := k1.drew
      have r1 := r1.drewI
      have r2 := r2.drewI
      refine wp_region_held_drew (S := (fun w' => w'.cell? ⟨v2.heap.size, 0, none⟩ = some (.slice ag os.length cg))) (by as_aux_lemma => kernel_rfl) k1.cell (fun hHeld => ?_)
      refine wpAnyH_take (i := 0) (v := ?_) rfl (by as_aux_lemma => kernel_rfl) (by as_aux_lemma => kernel_rfl) (by as_aux_lemma => kernel_rfl) (fun _ _ _ h => h) (Or.inl ⟨by first | kernel_rfl | rfl, ?_⟩) (by assumption) ?_
      rotate_left
      · intro w hSw
        (try dsimp only at hSw)
        (try go_split_ands)
        go_simp
        try with_reducible rfl
      (try simp only [Act.put, List.setIfInBounds_toArray, List.set_cons_zero, List.set_cons_succ])
      refine wpAnyH_take (i := 1) (v := ?_) rfl (by as_aux_lemma => kernel_rfl) (by as_aux_lemma => kernel_rfl) (by as_aux_lemma => kernel_rfl) (fun _ _ _ h => h) (Or.inl ⟨by first | kernel_rfl | rfl, ?_⟩) (by assumption) ?_
      rotate_left
      · intro w hSw
        (try dsimp only at hSw)
        (try go_split_ands)
        go_simp
        try with_reducible rfl
      (try simp only [Act.put, List.setIfInBounds_toArray, List.set_cons_zero, List.set_cons_succ])
      refine wpAnyH_take (i := 2) (v := ?_) rfl (by as_aux_lemma => kernel_rfl) (by as_aux_lemma => kernel_rfl) (by as_aux_lemma => kernel_rfl) (fun _ _ _ h => h) (Or.inl ⟨by first | kernel_rfl | rfl, ?_⟩) (by assumption) ?_
      rotate_left
      · intro w hSw
        (try dsimp only at hSw)
        (try go_split_ands)
        go_simp
        try with_reducible rfl
      (try simp only [Act.put, List.setIfInBounds_toArray, List.set_cons_zero, List.set_cons_succ])
      refine wpAnyH_take (i := 3) (v := ?_) rfl (by as_aux_lemma => kernel_rfl) (by as_aux_lemma => kernel_rfl) (by as_aux_lemma => kernel_rfl) (fun _ _ _ h => h) (Or.inl ⟨by first | kernel_rfl | rfl, ?_⟩) (by assumption) ?_
      rotate_left
      · intro w hSw
        (try dsimp only at hSw)
        (try go_split_ands)
        go_simp
        try with_reducible rfl
      (try simp only [Act.put, List.setIfInBounds_toArray, List.set_cons_zero, List.set_cons_succ])
      refine wpAnyH_take (i := 4) (v := ?_) rfl (by as_aux_lemma => kernel_rfl) (by as_aux_lemma => kernel_rfl) (by as_aux_lemma => kernel_rfl) (fun _ _ _ h => h) (Or.inl ⟨by first | kernel_rfl | rfl, ?_⟩) (by assumption) ?_
      rotate_left
      · intro w hSw
        (try dsimp only at hSw)
        (try go_split_ands)
        go_simp
        try with_reducible rfl
      (try simp only [Act.put, List.setIfInBounds_toArray, List.set_cons_zero, List.set_cons_succ])
      refine wpAnyH_take (i := 5) (v := ?_) rfl (by as_aux_lemma => kernel_rfl) (by as_aux_lemma => kernel_rfl) (by as_aux_lemma => kernel_rfl) (fun _ _ _ h => h) (Or.inl ⟨by first | kernel_rfl | rfl, ?_⟩) (by assumption) ?_
      rotate_left
      · intro w hSw
        (try dsimp only at hSw)
        (try go_split_ands)
        go_simp
        try with_reducible rfl
      (try simp only [Act.put, List.setIfInBounds_toArray, List.set_cons_zero, List.set_cons_succ])
      refine wpAnyH_ready (rs := [6]) (by as_aux_lemma => kernel_rfl) (by simp) ?_
      refine AllReadyH.cons rfl (fun K hK => ?_) AllReadyH.nil
      go_simp
      go_at_call 10
      refine (SL.out _ _ _ _ _ _ _ r1 r2).mono ?_; rintro e u ⟨rfl, b⟩
      have BB := nx BB b
      have k1 := k1.next b
      have r1 := r1.below b (Nat.le_refl _)
      have r2 := r2.below b (Nat.le_refl _)
      clear b
      refine hK.out _ _ k1.cell (fun hHeld => ?_)
      clear hK K
      (try simp only [Act.put, List.setIfInBounds_toArray, List.set_cons_zero, List.set_cons_succ])
      refine wpAnyH_take (i := 7) (v := ?_) rfl (by as_aux_lemma => kernel_rfl) (by as_aux_lemma => kernel_rfl) (by as_aux_lemma => kernel_rfl) (fun _ _ _ h => h) (Or.inl ⟨by first | kernel_rfl | rfl, ?_⟩) (by assumption) ?_
      rotate_left
      · intro w hSw
        (try dsimp only at hSw)
        (try go_split_ands)
        go_simp
        try with_reducible rfl
      (try simp only [Act.put, List.setIfInBounds_toArray, List.set_cons_zero, List.set_cons_succ])
      refine wpAnyH_take (i := 8) (v := ?_) rfl (by as_aux_lemma => kernel_rfl) (by as_aux_lemma => kernel_rfl) (by as_aux_lemma => kernel_rfl) (fun _ _ _ h => h) (Or.inl ⟨by first | kernel_rfl | rfl, ?_⟩) (by assumption) ?_
      rotate_left
      · intro w hSw
        (try dsimp only at hSw)
        (try go_split_ands)
        go_simp
        try with_reducible rfl
      (try simp only [Act.put, List.setIfInBounds_toArray, List.set_cons_zero, List.set_cons_succ])
      refine wpAnyH_take (i := 9) (v := ?_) rfl (by as_aux_lemma => kernel_rfl) (by as_aux_lemma => kernel_rfl) (by as_aux_lemma => kernel_rfl) (fun _ _ _ h => h) (Or.inl ⟨by first | kernel_rfl | rfl, ?_⟩) (by assumption) ?_
      rotate_left
      · intro w hSw
        (try dsimp only at hSw)
        (try go_split_ands)
        go_simp
        try with_reducible rfl
      (try simp only [Act.put, List.setIfInBounds_toArray, List.set_cons_zero, List.set_cons_succ])
      refine wpAnyH_take (i := 10) (v := ?_) rfl (by as_aux_lemma => kernel_rfl) (by as_aux_lemma => kernel_rfl) (by as_aux_lemma => kernel_rfl) (fun _ _ _ h => h) (Or.inl ⟨by first | kernel_rfl | rfl, ?_⟩) (by assumption) ?_
      rotate_left
      · intro w hSw
        (try dsimp only at hSw)
        (try go_split_ands)
        go_simp
        try with_reducible rfl
      (try simp only [Act.put, List.setIfInBounds_toArray, List.set_cons_zero, List.set_cons_succ])
      refine wpAnyH_take (i := 12) (v := ?_) rfl (by as_aux_lemma => kernel_rfl) (by as_aux_lemma => kernel_rfl) (by as_aux_lemma => kernel_rfl) (fun _ _ _ h => h) (Or.inl ⟨by first | kernel_rfl | rfl, ?_⟩) (by assumption) ?_
      rotate_left
      · intro w hSw
        (try dsimp only at hSw)
        (try go_split_ands)
        go_simp
        try with_reducible rfl
      (try simp only [Act.put, List.setIfInBounds_toArray, List.set_cons_zero, List.set_cons_succ])
      refine wpAnyH_ready (rs := [11]) (by as_aux_lemma => kernel_rfl) (by simp) ?_
      refine AllReadyH.cons rfl (fun K hK => ?_) AllReadyH.nil
      go_simp
      go_at_call 11
      refine (N1.out _ k1.own).mono ?_; rintro e u ⟨rfl, b⟩
      have BB := nx BB b
      have k1 := k1.next b
      have r1 := r1.below b (Nat.le_refl _)
      have r2 := r2.below b (Nat.le_refl _)
      clear b
      refine hK.out _ _ k1.cell (fun hHeld => ?_)
      clear hK K
      (try simp only [Act.put, List.setIfInBounds_toArray, List.set_cons_zero, List.set_cons_succ])
      refine wpAnyH_ready (rs := [13]) (by as_aux_lemma => kernel_rfl) (by simp) ?_
      refine AllReadyH.cons rfl (fun K hK => ?_) AllReadyH.nil
      go_simp
      go_at_call 12
      refine (N2.out _ k1.own).mono ?_; rintro e u ⟨rfl, b⟩
      have BB := nx BB b
      have k1 := k1.next b
      have r1 := r1.below b (Nat.le_refl _)
      have r2 := r2.below b (Nat.le_refl _)
      clear b
      refine hK.out _ _ k1.cell (fun hHeld => ?_)
      clear hK K
      (try simp only [Act.put, List.setIfInBounds_toArray, List.set_cons_zero, List.set_cons_succ])
      refine wpAnyH_take (i := 14) (v := ?_) rfl (by as_aux_lemma => kernel_rfl) (by as_aux_lemma => kernel_rfl) (by as_aux_lemma => kernel_rfl) (fun _ _ _ h => h) (Or.inl ⟨by first | kernel_rfl | rfl, ?_⟩) (by assumption) ?_
      rotate_left
      · intro w hSw
        (try dsimp only at hSw)
        (try go_split_ands)
        go_simp
        try with_reducible rfl
      (try simp only [Act.put, List.setIfInBounds_toArray, List.set_cons_zero, List.set_cons_succ])
      refine wpAnyH_take (i := 15) (v := ?_) rfl (by as_aux_lemma => kernel_rfl) (by as_aux_lemma => kernel_rfl) (by as_aux_lemma => kernel_rfl) (fun _ _ _ h => h) (Or.inl ⟨by first | kernel_rfl | rfl, ?_⟩) (by assumption) ?_
      rotate_left
      · intro w hSw
        (try dsimp only at hSw)
        (try go_split_ands)
        go_simp
        try with_reducible rfl
      (try simp only [Act.put, List.setIfInBounds_toArray, List.set_cons_zero, List.set_cons_succ])
      refine wpAnyH_take (i := 16) (v := ?_) rfl (by as_aux_lemma => kernel_rfl) (by as_aux_lemma => kernel_rfl) (by as_aux_lemma => kernel_rfl) (fun _ _ _ h => h) (Or.inl ⟨by first | kernel_rfl | rfl, ?_⟩) (by assumption) ?_
      rotate_left
      · intro w hSw
        (try dsimp only at hSw)
        (try go_split_ands)
        go_simp
        try with_reducible rfl
      (try simp only [Act.put, List.setIfInBounds_toArray, List.set_cons_zero, List.set_cons_succ])
      refine wpAnyH_take (i := 17) (v := ?_) rfl (by as_aux_lemma => kernel_rfl) (by as_aux_lemma => kernel_rfl) (by as_aux_lemma => kernel_rfl) (fun _ _ _ h => h) (Or.inl ⟨by first | kernel_rfl | rfl, ?_⟩) (by assumption) ?_
      rotate_left
      · intro w hSw
        (try dsimp only at hSw)
        (try go_split_ands)
        go_simp
        try with_reducible rfl
      (try simp only [Act.put, List.setIfInBounds_toArray, List.set_cons_zero, List.set_cons_succ])
      refine wpAnyH_take (i := 18) (v := ?_) rfl (by as_aux_lemma => kernel_rfl) (by as_aux_lemma => kernel_rfl) (by as_aux_lemma => kernel_rfl) (fun _ _ _ h => h) (Or.inl ⟨by first | kernel_rfl | rfl, ?_⟩) (by assumption) ?_
      rotate_left
      · intro w hSw
        (try dsimp only at hSw)
        (try go_split_ands)
        go_simp
        try with_reducible rfl
      (try simp only [Act.put, List.setIfInBounds_toArray, List.set_cons_zero, List.set_cons_succ])
      refine wpAnyH_take (i := 19) (v := undef) rfl (by as_aux_lemma => kernel_rfl) (by as_aux_lemma => kernel_rfl) (by as_aux_lemma => kernel_rfl) (fun _ _ _ h => h) (Or.inr ⟨by kernel_rfl, rfl⟩) (by assumption) ?_
      (try simp only [Act.put, List.setIfInBounds_toArray, List.set_cons_zero, List.set_cons_succ])
      refine wpAnyH_take (i := 20) (v := undef) rfl (by as_aux_lemma => kernel_rfl) (by as_aux_lemma => kernel_rfl) (by as_aux_lemma => kernel_rfl) (fun _ _ _ h => h) (Or.inr ⟨by kernel_rfl, rfl⟩) (by assumption) ?_
      (try simp only [Act.put, List.setIfInBounds_toArray, List.set_cons_zero, List.set_cons_succ])
      refine wpAnyH_take (i := 21) (v := undef) rfl (by as_aux_lemma => kernel_rfl) (by as_aux_lemma => kernel_rfl) (by as_aux_lemma => kernel_rfl) (fun _ _ _ h => h) (Or.inr ⟨by kernel_rfl, rfl⟩) (by assumption) ?_
      (try simp only [Act.put, List.setIfInBounds_toArray, List.set_cons_zero, List.set_cons_succ])
      refine wpAnyH_take (i := 22) (v := ?_) rfl (by as_aux_lemma => kernel_rfl) (by as_aux_lemma => kernel_rfl) (by as_aux_lemma => kernel_rfl) (fun _ _ _ h => h) (Or.inl ⟨by first | kernel_rfl | rfl, ?_⟩) (by assumption) ?_
      rotate_left
      · intro w hSw
        (try dsimp only at hSw)
        (try go_split_ands)
        go_simp
        try with_reducible rfl
      (try simp only [Act.put, List.setIfInBounds_toArray, List.set_cons_zero, List.set_cons_succ])
      refine wpAnyH_take (i := 23) (v := ?_) rfl (by as_aux_lemma => kernel_rfl) (by as_aux_lemma => kernel_rfl) (by as_aux_lemma => kernel_rfl) (fun _ _ _ h => h) (Or.inl ⟨by first | kernel_rfl | rfl, ?_⟩) (by assumption) ?_
      rotate_left
      · intro w hSw
        (try dsimp only at hSw)
        (try go_split_ands)
        go_simp
        try with_reducible rfl
      (try simp only [Act.put, List.setIfInBounds_toArray, List.set_cons_zero, List.set_cons_succ])
      refine wpAnyH_done (by as_aux_lemma => kernel_rfl) ?_ _
      (try simp only [List.getElem_toArray, List.getElem_cons_succ, List.getElem_cons_zero, Act.put, List.setIfInBounds_toArray, List.set_cons_zero, List.set_cons_succ])
      ((try dsimp only); repeat (first | ((with_reducible (show wpList _ _ _ (List.append _ _) _ _)); simp only [List.append]) | go_values | go_skip | go_guarded | go_step | go_upon | go_back))
      go_meet
      exact ⟨rfl, BB, k1, r2⟩
  case rest =>
  obtain ⟨rfl, BB, k1, r2⟩ := hcut
  clear SL N1 N2 r1
  go_upto_if 72 with fail
  go_cut [] from 34 to 72 (fun wx => Below w.heap.size w wx)
  case first =>
    cases fb with
    | true =>
      obtain ⟨hgB, hF0⟩ := HBG.out rfl
      have hAF := HAF.out rfl
      have hatb := HFB.out.symm
      obtain ⟨g2, g3, g4, g5, g6⟩ := grp_gn hgB
      have hT := setT_bd hgB
      have LAW := Lib.hid (fun (f : List Int) (A B : Nat) (hf : autB os f = true) h1 h2 => aut_law (A := A) (B := B) hatb hf h1 h2)
      have HFL := Lib.hid hAF
      have OO := Lib.hid (fun w h => orderOf_spec ag cg os w h (by omega))
      rw [show ordV os = gord os by simp [ordV, hgB], ← g5] at OO
      have FS := Lib.hid (fun w h => fullSet_spec ag cg os w h (by omega) hgB)
      rw [g6] at FS hT
      obtain ⟨N, hN⟩ : ∃ n, n = gn os := ⟨_, rfl⟩
      rw [← hN] at OO FS LAW g3 g4 hT
      obtain ⟨U, hU⟩ : ∃ n, n = 2 ^ N := ⟨_, rfl⟩
      rw [← hU] at FS LAW hT
      have hwU : IntKind.i64.wrap (((U - 1 : Nat) : Int) + 1) = (U : Int) := by rw [IntKind.wrap_i64]; omega
      have hU0 : ¬ U = 0 := by omega
      have hN0 : ¬ N = 0 := by omega
      have hFne : ¬ F.length = 0 := by omega
      have AT3 := Lib.hid (fun w h => at_any a cap n 3 w h hn (by decide))
      have AT4 := Lib.hid (fun w h => at_any a cap n 4 w h hn (by decide))
      have AT5 := Lib.hid (fun w h => at_any a cap n 5 w h hn (by decide))
      have AT6 := Lib.hid (fun w h => at_any a cap n 6 w h hn (by decide))
      clear hN hU g2 g5 g6 hgB hAF hatb
      have g := HB.out.below BB (Nat.le_refl _)
      have q_k1 := k1.cell
      ((try dsimp only); repeat (first | ((with_reducible (show wpList _ _ _ (List.append _ _) _ _)); simp only [List.append]) | go_values | go_skip | go_guarded | go_step | go_upon | go_back))
      clear q_k1
      refine (AT3.out _ g).mono ?_; rintro e v8 ⟨x3, rfl, hx3, b⟩
      have BB := nx BB b
      have k1 := k1.next b
      have r2 := r2.below b (Nat.le_refl _)
      clear b AT3 g
      have hi := Nat.mod_lt x3 hF0
      have hm3 := tmod_nat x3 F.length hF0
      obtain ⟨i, hii⟩ : ∃ i, i = x3 % F.length := ⟨_, rfl⟩
      rw [← hii] at hi hm3
      have hiN : (i : Int) < F.length := by omega
      obtain ⟨ai, ci, e1, i1⟩ := r2.row i hi
      obtain ⟨bb, off, ha2, hbb, hcell⟩ := r2.cells.resolve_left (by omega)
      subst ha2
      have d3 := (hcell i hi).trans e1
      have hf := HFL.out i hi
      have i2 : Ints v8 ai ci (F.getD i []) := i1
      have d4 : v8.cell? ⟨bb, off + i, none⟩ = some (.slice ai (F.getD i []).length ci) := d3
      obtain ⟨f, hff⟩ : ∃ f, f = F.getD i [] := ⟨_, rfl⟩
      rw [← hff] at hf i2 d4
      have hfl := (aut_parts hf).2.2.1.1
      clear e1 i1 hcell hii hx3 r2 d3 hff HFL
      have HFA := Lib.hid hf
      have IA := Lib.hid (fun w h k => aut_impl ag cg os ai ci f w h k (by omega) (by omega))
      rw [hf] at IA
      have IM := Lib.hid (fun x w h k => img_impl ag cg os ai ci f x w h k (by omega) (by omega))
      have SO := Lib.hid (fun x y w h => sos_spec ag cg os x y w h (by omega))
      have ST := Lib.hid (fun x w h => sta_spec ag cg os x w h (by omega))
      have CA := Lib.hid (fun x w h => can_impl ag cg os x w h (by omega))
      have SH := Lib.hid (fun x y w h => shf_spec ag cg os x y w h (by omega))
      have EQ := Lib.hid (fun x y w h => equ_impl ag cg os x y w h (by omega))
      clear hf
      have q_k1 := k1.cell
      ((try dsimp only); repeat (first | ((with_reducible (show wpList _ _ _ (List.append _ _) _ _)); simp only [List.append]) | go_values | go_skip | go_guarded | go_step | go_upon | go_back))
      clear q_k1
      refine (OO.out _ k1.own).mono ?_; rintro e v9 ⟨rfl, b⟩
      have BB := nx BB b
      have k1 := k1.next b
      have i2 := i2.below b (Nat.le_refl _)
      clear b OO
      clear d4
      have q_k1 := k1.cell
      ((try dsimp only); repeat (first | ((with_reducible (show wpList _ _ _ (List.append _ _) _ _)); simp only [List.append]) | go_values | go_skip | go_guarded | go_step | go_upon | go_back))
      clear q_k1
      have BB := below_drew BB
      have k1 := k1.drew
      have i2 := i2.drewI
      have g := (HB.out.below BB (Nat.le_refl _))
      refine wp_region_held_drew (S := (fun w' => w'.cell? ⟨v2.heap.size, 0, none⟩ = some (.slice ag os.length cg))) (by as_aux_lemma => kernel_rfl) k1.cell (fun hHeld => ?_)
      refine wpAnyH_take (i := 0) (v := ?_) rfl (by as_aux_lemma => kernel_rfl) (by as_aux_lemma => kernel_rfl) (by as_aux_lemma => kernel_rfl) (fun _ _ _ h => h) (Or.inl ⟨by first | kernel_rfl | rfl, ?_⟩) (by assumption) ?_
      rotate_left
      · intro w hSw
        (try dsimp only at hSw)
        (try go_split_ands)
        go_simp
        try with_reducible rfl
      (try simp only [Act.put, List.setIfInBounds_toArray, List.set_cons_zero, List.set_cons_succ])
      refine wpAnyH_take (i := 2) (v := ?_) rfl (by as_aux_lemma => kernel_rfl) (by as_aux_lemma => kernel_rfl) (by as_aux_lemma => kernel_rfl) (fun _ _ _ h => h) (Or.inl ⟨by first | kernel_rfl | rfl, ?_⟩) (by assumption) ?_
      rotate_left
      · intro w hSw
        (try dsimp only at hSw)
        (try go_split_ands)
        go_simp
        try with_reducible rfl
      (try simp only [Act.put, List.setIfInBounds_toArray, List.set_cons_zero, List.set_cons_succ])
      refine wpAnyH_ready (rs := [1]) (by as_aux_lemma => kernel_rfl) (by simp) ?_
      refine AllReadyH.cons rfl (fun K hK => ?_) AllReadyH.nil
      go_simp
      go_at_call 13
      refine (AT4.out _ g).mono ?_; rintro e u ⟨x4, rfl, hx4, b⟩
      have BB := nx BB b
      have k1 := k1.next b
      have i2 := i2.below b (Nat.le_refl _)
      clear b
      have hA := Nat.mod_lt x4 (show 0 < U by omega)
      have hmA := tmod_nat x4 U (by omega)
      obtain ⟨A, hAq⟩ : ∃ i, i = x4 % U := ⟨_, rfl⟩
      rw [← hAq] at hA hmA
      clear hAq hx4 g AT4
      refine hK.out _ _ k1.cell (fun hHeld => ?_)
      clear hK K
      (try simp only [Act.put, List.setIfInBounds_toArray, List.set_cons_zero, List.set_cons_succ])
      refine wpAnyH_ready (rs := [3]) (by as_aux_lemma => kernel_rfl) (by simp) ?_
      refine AllReadyH.cons rfl (fun K hK => ?_) AllReadyH.nil
      go_simp
      go_at_call 15
      refine (FS.out _ k1.own).mono ?_; rintro e u ⟨rfl, b⟩
      have BB := nx BB b
      have k1 := k1.next b
      have i2 := i2.below b (Nat.le_refl _)
      clear b
      refine hK.out _ _ k1.cell (fun hHeld => ?_)
      clear hK K
      (try simp only [Act.put, List.setIfInBounds_toArray, List.set_cons_zero, List.set_cons_succ])
      refine wpAnyH_take (i := 4) (v := ?_) rfl (by as_aux_lemma => kernel_rfl) (by as_aux_lemma => kernel_rfl) (by as_aux_lemma => kernel_rfl) (fun _ _ _ h => h) (Or.inl ⟨by first | kernel_rfl | rfl, ?_⟩) (by assumption) ?_
      rotate_left
      · intro w hSw
        (try dsimp only at hSw)
        (try go_split_ands)
        go_simp
        try with_reducible rfl
      (try simp only [Act.put, List.setIfInBounds_toArray, List.set_cons_zero, List.set_cons_succ])
      refine wpAnyH_take (i := 5) (v := ?_) rfl (by as_aux_lemma => kernel_rfl) (by as_aux_lemma => kernel_rfl) (by as_aux_lemma => kernel_rfl) (fun _ _ _ h => h) (Or.inl ⟨by first | kernel_rfl | rfl, ?_⟩) (by assumption) ?_
      rotate_left
      · intro w hSw
        (try dsimp only at hSw)
        (try go_split_ands)
        go_simp
        try with_reducible rfl
      (try simp only [Act.put, List.setIfInBounds_toArray, List.set_cons_zero, List.set_cons_succ])
      refine wpAnyH_take (i := 6) (v := ?_) rfl (by as_aux_lemma => kernel_rfl) (by as_aux_lemma => kernel_rfl) (by as_aux_lemma => kernel_rfl) (fun _ _ _ h => h) (Or.inl ⟨by first | kernel_rfl | rfl, ?_⟩) (by assumption) ?_
      rotate_left
      · intro w hSw
        (try dsimp only at hSw)
        (try go_split_ands)
        go_simp
        try with_reducible rfl
      (try simp only [Act.put, List.setIfInBounds_toArray, List.set_cons_zero, List.set_cons_succ])
      refine wpAnyH_done (by as_aux_lemma => kernel_rfl) ?_ _
      (try simp only [List.getElem_toArray, List.getElem_cons_succ, List.getElem_cons_zero, Act.put, List.setIfInBounds_toArray, List.set_cons_zero, List.set_cons_succ])
      have q_k1 := k1.cell
      ((try dsimp only); repeat (first | ((with_reducible (show wpList _ _ _ (List.append _ _) _ _)); simp only [List.append]) | go_values | go_skip | go_guarded | go_step | go_upon | go_back))
      clear q_k1
      have BB := below_drew BB
      have k1 := k1.drew
      have i2 := i2.drewI
      have g := (HB.out.below BB (Nat.le_refl _))
      refine wp_region_held_drew (S := (fun w' => w'.cell? ⟨v2.heap.size, 0, none⟩ = some (.slice ag os.length cg))) (by as_aux_lemma => kernel_rfl) k1.cell (fun hHeld => ?_)
      refine wpAnyH_take (i := 0) (v := ?_) rfl (by as_aux_lemma => kernel_rfl) (by as_aux_lemma => kernel_rfl) (by as_aux_lemma => kernel_rfl) (fun _ _ _ h => h) (Or.inl ⟨by first | kernel_rfl | rfl, ?_⟩) (by assumption) ?_
      rotate_left
      · intro w hSw
        (try dsimp only at hSw)
        (try go_split_ands)
        go_simp
        try with_reducible rfl
      (try simp only [Act.put, List.setIfInBounds_toArray, List.set_cons_zero, List.set_cons_succ])
      refine wpAnyH_take (i := 2) (v := ?_) rfl (by as_aux_lemma => kernel_rfl) (by as_aux_lemma => kernel_rfl) (by as_aux_lemma => kernel_rfl) (fun _ _ _ h => h) (Or.inl ⟨by first | kernel_rfl | rfl, ?_⟩) (by assumption) ?_
      rotate_left
      · intro w hSw
        (try dsimp only at hSw)
        (try go_split_ands)
        go_simp
        try with_reducible rfl
      (try simp only [Act.put, List.setIfInBounds_toArray, List.set_cons_zero, List.set_cons_succ])
      refine wpAnyH_ready (rs := [1]) (by as_aux_lemma => kernel_rfl) (by simp) ?_
      refine AllReadyH.cons rfl (fun K hK => ?_) AllReadyH.nil
      go_simp
      go_at_call 13
      refine (AT5.out _ g).mono ?_; rintro e u ⟨x5, rfl, hx5, b⟩
      have BB := nx BB b
      have k1 := k1.next b
      have i2 := i2.below b (Nat.le_refl _)
      clear b
      have hB := Nat.mod_lt x5 (show 0 < U by omega)
      have hmB := tmod_nat x5 U (by omega)
      obtain ⟨B, hBq⟩ : ∃ i, i = x5 % U := ⟨_, rfl⟩
      rw [← hBq] at hB hmB
      clear hBq hx5 g AT5
      refine hK.out _ _ k1.cell (fun hHeld => ?_)
      clear hK K
      (try simp only [Act.put, List.setIfInBounds_toArray, List.set_cons_zero, List.set_cons_succ])
      refine wpAnyH_ready (rs := [3]) (by as_aux_lemma => kernel_rfl) (by simp) ?_
      refine AllReadyH.cons rfl (fun K hK => ?_) AllReadyH.nil
      go_simp
      go_at_call 15
      refine (FS.out _ k1.own).mono ?_; rintro e u ⟨rfl, b⟩
      have BB := nx BB b
      have k1 := k1.next b
      have i2 := i2.below b (Nat.le_refl _)
      clear b
      refine hK.out _ _ k1.cell (fun hHeld => ?_)
      clear hK K
      (try simp only [Act.put, List.setIfInBounds_toArray, List.set_cons_zero, List.set_cons_succ])
      refine wpAnyH_take (i := 4) (v := ?_) rfl (by as_aux_lemma => kernel_rfl) (by as_aux_lemma => kernel_rfl) (by as_aux_lemma => kernel_rfl) (fun _ _ _ h => h) (Or.inl ⟨by first | kernel_rfl | rfl, ?_⟩) (by assumption) ?_
      rotate_left
      · intro w hSw
        (try dsimp only at hSw)
        (try go_split_ands)
        go_simp
        try with_reducible rfl
      (try simp only [Act.put, List.setIfInBounds_toArray, List.set_cons_zero, List.set_cons_succ])
      refine wpAnyH_take (i := 5) (v := ?_) rfl (by as_aux_lemma => kernel_rfl) (by as_aux_lemma => kernel_rfl) (by as_aux_lemma => kernel_rfl) (fun _ _ _ h => h) (Or.inl ⟨by first | kernel_rfl | rfl, ?_⟩) (by assumption) ?_
      rotate_left
      · intro w hSw
        (try dsimp only at hSw)
        (try go_split_ands)
        go_simp
        try with_reducible rfl
      (try simp only [Act.put, List.setIfInBounds_toArray, List.set_cons_zero, List.set_cons_succ])
      refine wpAnyH_take (i := 6) (v := ?_) rfl (by as_aux_lemma => kernel_rfl) (by as_aux_lemma => kernel_rfl) (by as_aux_lemma => kernel_rfl) (fun _ _ _ h => h) (Or.inl ⟨by first | kernel_rfl | rfl, ?_⟩) (by assumption) ?_
      rotate_left
      · intro w hSw
        (try dsimp only at hSw)
        (try go_split_ands)
        go_simp
        try with_reducible rfl
      (try simp only [Act.put, List.setIfInBounds_toArray, List.set_cons_zero, List.set_cons_succ])
      refine wpAnyH_done (by as_aux_lemma => kernel_rfl) ?_ _
      (try simp only [List.getElem_toArray, List.getElem_cons_succ, List.getElem_cons_zero, Act.put, List.setIfInBounds_toArray, List.set_cons_zero, List.set_cons_succ])
      have q_k1 := k1.cell
      ((try dsimp only); repeat (first | ((with_reducible (show wpList _ _ _ (List.append _ _) _ _)); simp only [List.append]) | go_values | go_skip | go_guarded | go_step | go_upon | go_back))
      clear q_k1
      obtain ⟨X, Y, S, P, Q, R, C, l1, l2, l3, l4, l5, l6, l7, l8, l9, l10, l11, l12⟩ := LAW.out f A B HFA.out hA hB
      have M1 := IM.out (A : Int)
      have M2 := IM.out (B : Int)
      have M3 := IM.out (S : Int)
      have M4 := IM.out (R : Int)
      have O1 := SO.out (A : Int) (B : Int)
      have O2 := SO.out (X : Int) (Y : Int)
      have T1 := ST.out (X : Int)
      have T2 := ST.out (A : Int)
      have C1 := CA.out (A : Int)
      have E1 := EQ.out (A : Int) (X : Int)
      rw [l1] at M1
      rw [l2] at M2
      rw [l4] at M3
      rw [l8] at M4
      rw [l3] at O1
      rw [l5] at O2
      rw [l6] at T1
      rw [l7] at T2
      rw [l9, l10] at C1
      rw [l11] at E1
      have HM1 := Lib.hid M1
      have HM2 := Lib.hid M2
      have HM3 := Lib.hid M3
      have HM4 := Lib.hid M4
      have HO1 := Lib.hid O1
      have HO2 := Lib.hid O2
      have HT1 := Lib.hid T1
      have HT2 := Lib.hid T2
      have HC1 := Lib.hid C1
      have HE1 := Lib.hid E1
      have HL12 := Lib.hid l12
      have hX0 : ¬ ((X : Int) < 0) := by omega
      have hY0 : ¬ ((Y : Int) < 0) := by omega
      have hXd : decide ((X : Int) < 0) = false := by simp
      have hYd : decide ((Y : Int) < 0) = false := by simp
      clear l1 l2 l3 l4 l5 l6 l7 l8 l9 l10 l11 l12 M1 M2 M3 M4 O1 O2 T1 T2 C1 E1 IM SO ST EQ LAW HFA FS
      have q_k1 := k1.cell
      ((try dsimp only); repeat (first | ((with_reducible (show wpList _ _ _ (List.append _ _) _ _)); simp only [List.append]) | go_values | go_skip | go_guarded | go_step | go_upon | go_back))
      clear q_k1
      refine (HM1.out _ k1.own i2).mono ?_; rintro e v10 ⟨rfl, b⟩
      have BB := nx BB b
      have k1 := k1.next b
      have i2 := i2.below b (Nat.le_refl _)
      clear b HM1
      have q_k1 := k1.cell
      ((try dsimp only); repeat (first | ((with_reducible (show wpList _ _ _ (List.append _ _) _ _)); simp only [List.append]) | go_values | go_skip | go_guarded | go_step | go_upon | go_back))
      clear q_k1
      refine (HM2.out _ k1.own i2).mono ?_; rintro e v11 ⟨rfl, b⟩
      have BB := nx BB b
      have k1 := k1.next b
      have i2 := i2.below b (Nat.le_refl _)
      clear b HM2
      have q_k1 := k1.cell
      ((try dsimp only); repeat (first | ((with_reducible (show wpList _ _ _ (List.append _ _) _ _)); simp only [List.append]) | go_values | go_skip | go_guarded | go_step | go_upon | go_back))
      clear q_k1
      have BB := below_drew BB
      have k1 := k1.drew
      have i2 := i2.drewI
      refine wp_region_held_drew (S := (fun w' => w'.cell? ⟨v2.heap.size, 0, none⟩ = some (.slice ag os.length cg))) (by as_aux_lemma => kernel_rfl) k1.cell (fun hHeld => ?_)
      refine wpAnyH_take (i := 0) (v := ?_) rfl (by as_aux_lemma => kernel_rfl) (by as_aux_lemma => kernel_rfl) (by as_aux_lemma => kernel_rfl) (fun _ _ _ h => h) (Or.inl ⟨by first | kernel_rfl | rfl, ?_⟩) (by assumption) ?_
      rotate_left
      · intro w hSw
        (try dsimp only at hSw)
        (try go_split_ands)
        go_simp
        try with_reducible rfl
      (try simp only [Act.put, List.setIfInBounds_toArray, List.set_cons_zero, List.set_cons_succ])
      refine wpAnyH_take (i := 1) (v := ?_) rfl (by as_aux_lemma => kernel_rfl) (by as_aux_lemma => kernel_rfl) (by as_aux_lemma => kernel_rfl) (fun _ _ _ h => h) (Or.inl ⟨by first | kernel_rfl | rfl, ?_⟩) (by assumption) ?_
      rotate_left
      · intro w hSw
        (try dsimp only at hSw)
        (try go_split_ands)
        go_simp
        try with_reducible rfl
      (try simp only [Act.put, List.setIfInBounds_toArray, List.set_cons_zero, List.set_cons_succ])
      refine wpAnyH_ready (rs := [2]) (by as_aux_lemma => kernel_rfl) (by simp) ?_
      refine AllReadyH.cons rfl (fun K hK => ?_) AllReadyH.nil
      go_simp
      go_at_call 17
      refine (IA.out _ k1.own i2).mono ?_; rintro e u ⟨rfl, b⟩
      have BB := nx BB b
      have k1 := k1.next b
      have i2 := i2.below b (Nat.le_refl _)
      clear b
      refine hK.out _ _ k1.cell (fun hHeld => ?_)
      clear hK K
      (try simp only [Act.put, List.setIfInBounds_toArray, List.set_cons_zero, List.set_cons_succ])
      refine wpAnyH_take (i := 3) (v := ?_) rfl (by as_aux_lemma => kernel_rfl) (by as_aux_lemma => kernel_rfl) (by as_aux_lemma => kernel_rfl) (fun _ _ _ h => h) (Or.inl ⟨by first | kernel_rfl | rfl, ?_⟩) (by assumption) ?_
      rotate_left
      · intro w hSw
        (try dsimp only at hSw)
        (try go_split_ands)
        go_simp
        try with_reducible rfl
      (try simp only [Act.put, List.setIfInBounds_toArray, List.set_cons_zero, List.set_cons_succ])
      refine wpAnyH_take (i := 4) (v := ?_) rfl (by as_aux_lemma => kernel_rfl) (by as_aux_lemma => kernel_rfl) (by as_aux_lemma => kernel_rfl) (fun _ _ _ h => h) (Or.inl ⟨by first | kernel_rfl | rfl, ?_⟩) (by assumption) ?_
      rotate_left
      · intro w hSw
        (try dsimp only at hSw)
        (try go_split_ands)
        go_simp
        try with_reducible rfl
      (try simp only [Act.put, List.setIfInBounds_toArray, List.set_cons_zero, List.set_cons_succ])
      refine wpAnyH_take (i := 5) (v := ?_) rfl (by as_aux_lemma => kernel_rfl) (by as_aux_lemma => kernel_rfl) (by as_aux_lemma => kernel_rfl) (fun _ _ _ h => h) (Or.inl ⟨by first | kernel_rfl | rfl, ?_⟩) (by assumption) ?_
      rotate_left
      · intro w hSw
        (try dsimp only at hSw)
        (try go_split_ands)
        go_simp
        try with_reducible rfl
      (try simp only [Act.put, List.setIfInBounds_toArray, List.set_cons_zero, List.set_cons_succ])
      refine wpAnyH_take (i := 6) (v := ?_) rfl (by as_aux_lemma => kernel_rfl) (by as_aux_lemma => kernel_rfl) (by as_aux_lemma => kernel_rfl) (fun _ _ _ h => h) (Or.inl ⟨by first | kernel_rfl | rfl, ?_⟩) (by assumption) ?_
      rotate_left
      · intro w hSw
        (try dsimp only at hSw)
        (try go_split_ands)
        go_simp
        try with_reducible rfl
      (try simp only [Act.put, List.setIfInBounds_toArray, List.set_cons_zero, List.set_cons_succ])
      refine wpAnyH_take (i := 7) (v := ?_) rfl (by as_aux_lemma => kernel_rfl) (by as_aux_lemma => kernel_rfl) (by as_aux_lemma => kernel_rfl) (fun _ _ _ h => h) (Or.inl ⟨by first | kernel_rfl | rfl, ?_⟩) (by assumption) ?_
      rotate_left
      · intro w hSw
        (try dsimp only at hSw)
        (try go_split_ands)
        go_simp
        try with_reducible rfl
      (try simp only [Act.put, List.setIfInBounds_toArray, List.set_cons_zero, List.set_cons_succ])
      refine wpAnyH_take (i := 8) (v := ?_) rfl (by as_aux_lemma => kernel_rfl) (by as_aux_lemma => kernel_rfl) (by as_aux_lemma => kernel_rfl) (fun _ _ _ h => h) (Or.inl ⟨by first | kernel_rfl | rfl, ?_⟩) (by assumption) ?_
      rotate_left
      · intro w hSw
        (try dsimp only at hSw)
        (try go_split_ands)
        go_simp
        try with_reducible rfl
      (try simp only [Act.put, List.setIfInBounds_toArray, List.set_cons_zero, List.set_cons_succ])
      refine wpAnyH_take (i := 9) (v := ?_) rfl (by as_aux_lemma => kernel_rfl) (by as_aux_lemma => kernel_rfl) (by as_aux_lemma => kernel_rfl) (fun _ _ _ h => h) (Or.inl ⟨by first | kernel_rfl | rfl, ?_⟩) (by assumption) ?_
      rotate_left
      · intro w hSw
        (try dsimp only at hSw)
        (try go_split_ands)
        go_simp
        try with_reducible rfl
      (try simp only [Act.put, List.setIfInBounds_toArray, List.set_cons_zero, List.set_cons_succ])
      refine wpAnyH_take (i := 10) (v := ?_) rfl (by as_aux_lemma => kernel_rfl) (by as_aux_lemma => kernel_rfl) (by as_aux_lemma => kernel_rfl) (fun _ _ _ h => h) (Or.inl ⟨by first | kernel_rfl | rfl, ?_⟩) (by assumption) ?_
      rotate_left
      · intro w hSw
        (try dsimp only at hSw)
        (try go_split_ands)
        go_simp
        try with_reducible rfl
      (try simp only [Act.put, List.setIfInBounds_toArray, List.set_cons_zero, List.set_cons_succ])
      refine wpAnyH_take (i := 11) (v := ?_) rfl (by as_aux_lemma => kernel_rfl) (by as_aux_lemma => kernel_rfl) (by as_aux_lemma => kernel_rfl) (fun _ _ _ h => h) (Or.inl ⟨by first | kernel_rfl | rfl, ?_⟩) (by assumption) ?_
      rotate_left
      · intro w hSw
        (try dsimp only at hSw)
        (try go_split_ands)
        go_simp
        try with_reducible rfl
      (try simp only [Act.put, List.setIfInBounds_toArray, List.set_cons_zero, List.set_cons_succ])
      refine wpAnyH_take (i := 12) (v := ?_) rfl (by as_aux_lemma => kernel_rfl) (by as_aux_lemma => kernel_rfl) (by as_aux_lemma => kernel_rfl) (fun _ _ _ h => h) (Or.inl ⟨by first | kernel_rfl | rfl, ?_⟩) (by assumption) ?_
      rotate_left
      · intro w hSw
        (try dsimp only at hSw)
        (try go_split_ands)
        go_simp
        try with_reducible rfl
      (try simp only [Act.put, List.setIfInBounds_toArray, List.set_cons_zero, List.set_cons_succ])
      refine wpAnyH_take (i := 13) (v := ?_) rfl (by as_aux_lemma => kernel_rfl) (by as_aux_lemma => kernel_rfl) (by as_aux_lemma => kernel_rfl) (fun _ _ _ h => h) (Or.inl ⟨by first | kernel_rfl | rfl, ?_⟩) (by assumption) ?_
      rotate_left
      · intro w hSw
        (try dsimp only at hSw)
        (try go_split_ands)
        go_simp
        try with_reducible rfl
      (try simp only [Act.put, List.setIfInBounds_toArray, List.set_cons_zero, List.set_cons_succ])
      refine wpAnyH_take (i := 14) (v := ?_) rfl (by as_aux_lemma => kernel_rfl) (by as_aux_lemma => kernel_rfl) (by as_aux_lemma => kernel_rfl) (fun _ _ _ h => h) (Or.inl ⟨by first | kernel_rfl | rfl, ?_⟩) (by assumption) ?_
      rotate_left
      · intro w hSw
        (try dsimp only at hSw)
        (try go_split_ands)
        go_simp
        try with_reducible rfl
      (try simp only [Act.put, List.setIfInBounds_toArray, List.set_cons_zero, List.set_cons_succ])
      refine wpAnyH_take (i := 15) (v := ?_) rfl (by as_aux_lemma => kernel_rfl) (by as_aux_lemma => kernel_rfl) (by as_aux_lemma => kernel_rfl) (fun _ _ _ h => h) (Or.inl ⟨by first | kernel_rfl | rfl, ?_⟩) (by assumption) ?_
      rotate_left
      · intro w hSw
        (try dsimp only at hSw)
        (try go_split_ands)
        go_simp
        try with_reducible rfl
      (try simp only [Act.put, List.setIfInBounds_toArray, List.set_cons_zero, List.set_cons_succ])
      refine wpAnyH_take (i := 16) (v := ?_) rfl (by as_aux_lemma => kernel_rfl) (by as_aux_lemma => kernel_rfl) (by as_aux_lemma => kernel_rfl) (fun _ _ _ h => h) (Or.inl ⟨by first | kernel_rfl | rfl, ?_⟩) (by assumption) ?_
      rotate_left
      · intro w hSw
        (try dsimp only at hSw)
        (try go_split_ands)
        go_simp
        try with_reducible rfl
      (try simp only [Act.put, List.setIfInBounds_toArray, List.set_cons_zero, List.set_cons_succ])
      refine wpAnyH_take (i := 17) (v := ?_) rfl (by as_aux_lemma => kernel_rfl) (by as_aux_lemma => kernel_rfl) (by as_aux_lemma => kernel_rfl) (fun _ _ _ h => h) (Or.inl ⟨by first | kernel_rfl | rfl, ?_⟩) (by assumption) ?_
      rotate_left
      · intro w hSw
        (try dsimp only at hSw)
        (try go_split_ands)
        go_simp
        try with_reducible rfl
      (try simp only [Act.put, List.setIfInBounds_toArray, List.set_cons_zero, List.set_cons_succ])
      refine wpAnyH_take (i := 20) (v := ?_) rfl (by as_aux_lemma => kernel_rfl) (by as_aux_lemma => kernel_rfl) (by as_aux_lemma => kernel_rfl) (fun _ _ _ h => h) (Or.inl ⟨by first | kernel_rfl | rfl, ?_⟩) (by assumption) ?_
      rotate_left
      · intro w hSw
        (try dsimp only at hSw)
        (try go_split_ands)
        go_simp
        try with_reducible rfl
      (try simp only [Act.put, List.setIfInBounds_toArray, List.set_cons_zero, List.set_cons_succ])
      refine wpAnyH_take (i := 21) (v := ?_) rfl (by as_aux_lemma => kernel_rfl) (by as_aux_lemma => kernel_rfl) (by as_aux_lemma => kernel_rfl) (fun _ _ _ h => h) (Or.inl ⟨by first | kernel_rfl | rfl, ?_⟩) (by assumption) ?_
      rotate_left
      · intro w hSw
        (try dsimp only at hSw)
        (try go_split_ands)
        go_simp
        try with_reducible rfl
      (try simp only [Act.put, List.setIfInBounds_toArray, List.set_cons_zero, List.set_cons_succ])
      refine wpAnyH_take (i := 22) (v := ?_) rfl (by as_aux_lemma => kernel_rfl) (by as_aux_lemma => kernel_rfl) (by as_aux_lemma => kernel_rfl) (fun _ _ _ h => h) (Or.inl ⟨by first | kernel_rfl | rfl, ?_⟩) (by assumption) ?_
      rotate_left
      · intro w hSw
        (try dsimp only at hSw)
        (try go_split_ands)
        go_simp
        try with_reducible rfl
      (try simp only [Act.put, List.setIfInBounds_toArray, List.set_cons_zero, List.set_cons_succ])
      refine wpAnyH_ready (rs := [18]) (by as_aux_lemma => kernel_rfl) (by simp) ?_
      refine AllReadyH.cons rfl (fun K hK => ?_) AllReadyH.nil
      go_simp
      go_at_call 18
      refine (HO1.out _ k1.own).mono ?_; rintro e u ⟨rfl, b⟩
      have BB := nx BB b
      have k1 := k1.next b
      have i2 := i2.below b (Nat.le_refl _)
      clear b
      refine hK.out _ _ k1.cell (fun hHeld => ?_)
      clear hK K
      (try simp only [Act.put, List.setIfInBounds_toArray, List.set_cons_zero, List.set_cons_succ])
      refine wpAnyH_ready (rs := [19]) (by as_aux_lemma => kernel_rfl) (by simp) ?_
      refine AllReadyH.cons rfl (fun K hK => ?_) AllReadyH.nil
      go_simp
      go_at_call 16
      refine (HM3.out _ k1.own i2).mono ?_; rintro e u ⟨rfl, b⟩
      have BB := nx BB b
      have k1 := k1.next b
      have i2 := i2.below b (Nat.le_refl _)
      clear b
      refine hK.out _ _ k1.cell (fun hHeld => ?_)
      clear hK K
      (try simp only [Act.put, List.setIfInBounds_toArray, List.set_cons_zero, List.set_cons_succ])
      refine wpAnyH_ready (rs := [23]) (by as_aux_lemma => kernel_rfl) (by simp) ?_
      refine AllReadyH.cons rfl (fun K hK => ?_) AllReadyH.nil
      go_simp
      go_at_call 18
      refine (HO2.out _ k1.own).mono ?_; rintro e u ⟨rfl, b⟩
      have BB := nx BB b
      have k1 := k1.next b
      have i2 := i2.below b (Nat.le_refl _)
      clear b
      refine hK.out _ _ k1.cell (fun hHeld => ?_)
      clear hK K
      (try simp only [Act.put, List.setIfInBounds_toArray, List.set_cons_zero, List.set_cons_succ])
      refine wpAnyH_take (i := 24) (v := ?_) rfl (by as_aux_lemma => kernel_rfl) (by as_aux_lemma => kernel_rfl) (by as_aux_lemma => kernel_rfl) (fun _ _ _ h => h) (Or.inl ⟨by first | kernel_rfl | rfl, ?_⟩) (by assumption) ?_
      rotate_left
      · intro w hSw
        (try dsimp only at hSw)
        (try go_split_ands)
        go_simp
        try with_reducible rfl
      (try simp only [Act.put, List.setIfInBounds_toArray, List.set_cons_zero, List.set_cons_succ])
      refine wpAnyH_take (i := 25) (v := ?_) rfl (by as_aux_lemma => kernel_rfl) (by as_aux_lemma => kernel_rfl) (by as_aux_lemma => kernel_rfl) (fun _ _ _ h => h) (Or.inl ⟨by first | kernel_rfl | rfl, ?_⟩) (by assumption) ?_
      rotate_left
      · intro w hSw
        (try dsimp only at hSw)
        (try go_split_ands)
        go_simp
        try with_reducible rfl
      (try simp only [Act.put, List.setIfInBounds_toArray, List.set_cons_zero, List.set_cons_succ])
      refine wpAnyH_take (i := 26) (v := ?_) rfl (by as_aux_lemma => kernel_rfl) (by as_aux_lemma => kernel_rfl) (by as_aux_lemma => kernel_rfl) (fun _ _ _ h => h) (Or.inl ⟨by first | kernel_rfl | rfl, ?_⟩) (by assumption) ?_
      rotate_left
      · intro w hSw
        (try dsimp only at hSw)
        (try go_split_ands)
        go_simp
        try with_reducible rfl
      (try simp only [Act.put, List.setIfInBounds_toArray, List.set_cons_zero, List.set_cons_succ])
      refine wpAnyH_take (i := 27) (v := ?_) rfl (by as_aux_lemma => kernel_rfl) (by as_aux_lemma => kernel_rfl) (by as_aux_lemma => kernel_rfl) (fun _ _ _ h => h) (Or.inl ⟨by first | kernel_rfl | rfl, ?_⟩) (by assumption) ?_
      rotate_left
      · intro w hSw
        (try dsimp only at hSw)
        (try go_split_ands)
        go_simp
        try with_reducible rfl
      (try simp only [Act.put, List.setIfInBounds_toArray, List.set_cons_zero, List.set_cons_succ])
      refine wpAnyH_take (i := 28) (v := ?_) rfl (by as_aux_lemma => kernel_rfl) (by as_aux_lemma => kernel_rfl) (by as_aux_lemma => kernel_rfl) (fun _ _ _ h => h) (Or.inl ⟨by first | kernel_rfl | rfl, ?_⟩) (by assumption) ?_
      rotate_left
      · intro w hSw
        (try dsimp only at hSw)
        (try go_split_ands)
        go_simp
        try with_reducible rfl
      (try simp only [Act.put, List.setIfInBounds_toArray, List.set_cons_zero, List.set_cons_succ])
      refine wpAnyH_take (i := 30) (v := ?_) rfl (by as_aux_lemma => kernel_rfl) (by as_aux_lemma => kernel_rfl) (by as_aux_lemma => kernel_rfl) (fun _ _ _ h => h) (Or.inl ⟨by first | kernel_rfl | rfl, ?_⟩) (by assumption) ?_
      rotate_left
      · intro w hSw
        (try dsimp only at hSw)
        (try go_split_ands)
        go_simp
        try with_reducible rfl
      (try simp only [Act.put, List.setIfInBounds_toArray, List.set_cons_zero, List.set_cons_succ])
      refine wpAnyH_take (i := 31) (v := ?_) rfl (by as_aux_lemma => kernel_rfl) (by as_aux_lemma => kernel_rfl) (by as_aux_lemma => kernel_rfl) (fun _ _ _ h => h) (Or.inl ⟨by first | kernel_rfl | rfl, ?_⟩) (by assumption) ?_
      rotate_left
      · intro w hSw
        (try dsimp only at hSw)
        (try go_split_ands)
        go_simp
        try with_reducible rfl
      (try simp only [Act.put, List.setIfInBounds_toArray, List.set_cons_zero, List.set_cons_succ])
      refine wpAnyH_take (i := 32) (v := ?_) rfl (by as_aux_lemma => kernel_rfl) (by as_aux_lemma => kernel_rfl) (by as_aux_lemma => kernel_rfl) (fun _ _ _ h => h) (Or.inl ⟨by first | kernel_rfl | rfl, ?_⟩) (by assumption) ?_
      rotate_left
      · intro w hSw
        (try dsimp only at hSw)
        (try go_split_ands)
        go_simp
        try with_reducible rfl
      (try simp only [Act.put, List.setIfInBounds_toArray, List.set_cons_zero, List.set_cons_succ])
      refine wpAnyH_take (i := 33) (v := ?_) rfl (by as_aux_lemma => kernel_rfl) (by as_aux_lemma => kernel_rfl) (by as_aux_lemma => kernel_rfl) (fun _ _ _ h => h) (Or.inl ⟨by first | kernel_rfl | rfl, ?_⟩) (by assumption) ?_
      rotate_left
      · intro w hSw
        (try dsimp only at hSw)
        (try go_split_ands)
        go_simp
        try with_reducible rfl
      (try simp only [Act.put, List.setIfInBounds_toArray, List.set_cons_zero, List.set_cons_succ])
      refine wpAnyH_ready (rs := [29]) (by as_aux_lemma => kernel_rfl) (by simp) ?_
      refine AllReadyH.cons rfl (fun K hK => ?_) AllReadyH.nil
      go_simp
      go_at_call 19
      refine (HT1.out _ k1.own).mono ?_; rintro e u ⟨rfl, b⟩
      have BB := nx BB b
      have k1 := k1.next b
      have i2 := i2.below b (Nat.le_refl _)
      clear b
      refine hK.out _ _ k1.cell (fun hHeld => ?_)
      clear hK K
      (try simp only [Act.put, List.setIfInBounds_toArray, List.set_cons_zero, List.set_cons_succ])
      refine wpAnyH_ready (rs := [34]) (by as_aux_lemma => kernel_rfl) (by simp) ?_
      refine AllReadyH.cons rfl (fun K hK => ?_) AllReadyH.nil
      go_simp
      go_at_call 19
      refine (HT2.out _ k1.own).mono ?_; rintro e u ⟨rfl, b⟩
      have BB := nx BB b
      have k1 := k1.next b
      have i2 := i2.below b (Nat.le_refl _)
      clear b
      refine hK.out _ _ k1.cell (fun hHeld => ?_)
      clear hK K
      (try simp only [Act.put, List.setIfInBounds_toArray, List.set_cons_zero, List.set_cons_succ])
      refine wpAnyH_ready (rs := [35]) (by as_aux_lemma => kernel_rfl) (by simp) ?_
      refine AllReadyH.cons rfl (fun K hK => ?_) AllReadyH.nil
      go_simp
      go_at_call 16
      refine (HM4.out _ k1.own i2).mono ?_; rintro e u ⟨rfl, b⟩
      have BB := nx BB b
      have k1 := k1.next b
      have i2 := i2.below b (Nat.le_refl _)
      clear b
      refine hK.out _ _ k1.cell (fun hHeld => ?_)
      clear hK K
      (try simp only [Act.put, List.setIfInBounds_toArray, List.set_cons_zero, List.set_cons_succ])
      refine wpAnyH_take (i := 36) (v := ?_) rfl (by as_aux_lemma => kernel_rfl) (by as_aux_lemma => kernel_rfl) (by as_aux_lemma => kernel_rfl) (fun _ _ _ h => h) (Or.inl ⟨by first | kernel_rfl | rfl, ?_⟩) (by assumption) ?_
      rotate_left
      · intro w hSw
        (try dsimp only at hSw)
        (try go_split_ands)
        go_simp
        try with_reducible rfl
      (try simp only [Act.put, List.setIfInBounds_toArray, List.set_cons_zero, List.set_cons_succ])
      refine wpAnyH_take (i := 37) (v := ?_) rfl (by as_aux_lemma => kernel_rfl) (by as_aux_lemma => kernel_rfl) (by as_aux_lemma => kernel_rfl) (fun _ _ _ h => h) (Or.inl ⟨by first | kernel_rfl | rfl, ?_⟩) (by assumption) ?_
      rotate_left
      · intro w hSw
        (try dsimp only at hSw)
        (try go_split_ands)
        go_simp
        try with_reducible rfl
      (try simp only [Act.put, List.setIfInBounds_toArray, List.set_cons_zero, List.set_cons_succ])
      refine wpAnyH_done (by as_aux_lemma => kernel_rfl) ?_ _
      (try simp only [List.getElem_toArray, List.getElem_cons_succ, List.getElem_cons_zero, Act.put, List.setIfInBounds_toArray, List.set_cons_zero, List.set_cons_succ])
      clear IA HO1 HM3 HO2 HT1 HT2 HM4
      clear i2
      have q_k1 := k1.cell
      ((try dsimp only); repeat (first | ((with_reducible (show wpList _ _ _ (List.append _ _) _ _)); simp only [List.append]) | go_values | go_skip | go_guarded | go_step | go_upon | go_back))
      clear q_k1
      refine (HC1.out _ k1.own).mono ?_; rintro e v12 ⟨rfl, b⟩
      have BB := nx BB b
      have k1 := k1.next b
      clear b HC1
      have q_k1 := k1.cell
      ((try dsimp only); repeat (first | ((with_reducible (show wpList _ _ _ (List.append _ _) _ _)); simp only [List.append]) | go_values | go_skip | go_guarded | go_step | go_upon | go_back))
      clear q_k1
      have BB := below_drew BB
      have k1 := k1.drew
      have g := (HB.out.below BB (Nat.le_refl _))
      refine wp_region_held_drew (S := (fun w' => w'.cell? ⟨v2.heap.size, 0, none⟩ = some (.slice ag os.length cg))) (by as_aux_lemma => kernel_rfl) k1.cell (fun hHeld => ?_)
      refine wpAnyH_take (i := 0) (v := ?_) rfl (by as_aux_lemma => kernel_rfl) (by as_aux_lemma => kernel_rfl) (by as_aux_lemma => kernel_rfl) (fun _ _ _ h => h) (Or.inl ⟨by first | kernel_rfl | rfl, ?_⟩) (by assumption) ?_
      rotate_left
      · intro w hSw
        (try dsimp only at hSw)
        (try go_split_ands)
        go_simp
        try with_reducible rfl
      (try simp only [Act.put, List.setIfInBounds_toArray, List.set_cons_zero, List.set_cons_succ])
      refine wpAnyH_take (i := 1) (v := ?_) rfl (by as_aux_lemma => kernel_rfl) (by as_aux_lemma => kernel_rfl) (by as_aux_lemma => kernel_rfl) (fun _ _ _ h => h) (Or.inl ⟨by first | kernel_rfl | rfl, ?_⟩) (by assumption) ?_
      rotate_left
      · intro w hSw
        (try dsimp only at hSw)
        (try go_split_ands)
        go_simp
        try with_reducible rfl
      (try simp only [Act.put, List.setIfInBounds_toArray, List.set_cons_zero, List.set_cons_succ])
      refine wpAnyH_take (i := 2) (v := ?_) rfl (by as_aux_lemma => kernel_rfl) (by as_aux_lemma => kernel_rfl) (by as_aux_lemma => kernel_rfl) (fun _ _ _ h => h) (Or.inl ⟨by first | kernel_rfl | rfl, ?_⟩) (by assumption) ?_
      rotate_left
      · intro w hSw
        (try dsimp only at hSw)
        (try go_split_ands)
        go_simp
        try with_reducible rfl
      (try simp only [Act.put, List.setIfInBounds_toArray, List.set_cons_zero, List.set_cons_succ])
      refine wpAnyH_take (i := 3) (v := ?_) rfl (by as_aux_lemma => kernel_rfl) (by as_aux_lemma => kernel_rfl) (by as_aux_lemma => kernel_rfl) (fun _ _ _ h => h) (Or.inl ⟨by first | kernel_rfl | rfl, ?_⟩) (by assumption) ?_
      rotate_left
      · intro w hSw
        (try dsimp only at hSw)
        (try go_split_ands)
        go_simp
        try with_reducible rfl
      (try simp only [Act.put, List.setIfInBounds_toArray, List.set_cons_zero, List.set_cons_succ])
      refine wpAnyH_take (i := 5) (v := ?_) rfl (by as_aux_lemma => kernel_rfl) (by as_aux_lemma => kernel_rfl) (by as_aux_lemma => kernel_rfl) (fun _ _ _ h => h) (Or.inl ⟨by first | kernel_rfl | rfl, ?_⟩) (by assumption) ?_
      rotate_left
      · intro w hSw
        (try dsimp only at hSw)
        (try go_split_ands)
        go_simp
        try with_reducible rfl
      (try simp only [Act.put, List.setIfInBounds_toArray, List.set_cons_zero, List.set_cons_succ])
      refine wpAnyH_ready (rs := [4]) (by as_aux_lemma => kernel_rfl) (by simp) ?_
      refine AllReadyH.cons rfl (fun K hK => ?_) AllReadyH.nil
      go_simp
      go_at_call 13
      refine (AT6.out _ g).mono ?_; rintro e u ⟨x6, rfl, hx6, b⟩
      have BB := nx BB b
      have k1 := k1.next b
      clear b
      have hz := Nat.mod_lt x6 (show 0 < N by omega)
      have hm6 := tmod_nat x6 N (by omega)
      obtain ⟨z, hzq⟩ : ∃ i, i = x6 % N := ⟨_, rfl⟩
      rw [← hzq] at hz hm6
      obtain ⟨T, t1, t2, t3⟩ := HL12.out z hz
      have SH1 := SH.out (X : Int) (z : Int)
      rw [t1] at SH1
      have C2 := CA.out (T : Int)
      rw [t2, t3] at C2
      have HSH := Lib.hid SH1
      have HC2 := Lib.hid C2
      clear hzq hx6 g AT6 t1 t2 t3 SH1 C2 SH CA HL12
      refine hK.out _ _ k1.cell (fun hHeld => ?_)
      clear hK K
      (try simp only [Act.put, List.setIfInBounds_toArray, List.set_cons_zero, List.set_cons_succ])
      refine wpAnyH_take (i := 6) (v := ?_) rfl (by as_aux_lemma => kernel_rfl) (by as_aux_lemma => kernel_rfl) (by as_aux_lemma => kernel_rfl) (fun _ _ _ h => h) (Or.inl ⟨by first | kernel_rfl | rfl, ?_⟩) (by assumption) ?_
      rotate_left
      · intro w hSw
        (try dsimp only at hSw)
        (try go_split_ands)
        go_simp
        try with_reducible rfl
      (try simp only [Act.put, List.setIfInBounds_toArray, List.set_cons_zero, List.set_cons_succ])
      refine wpAnyH_ready (rs := [7]) (by as_aux_lemma => kernel_rfl) (by simp) ?_
      refine AllReadyH.cons rfl (fun K hK => ?_) AllReadyH.nil
      go_simp
      go_at_call 21
      refine (HSH.out _ k1.own).mono ?_; rintro e u ⟨rfl, b⟩
      have BB := nx BB b
      have k1 := k1.next b
      clear b
      refine hK.out _ _ k1.cell (fun hHeld => ?_)
      clear hK K
      (try simp only [Act.put, List.setIfInBounds_toArray, List.set_cons_zero, List.set_cons_succ])
      refine wpAnyH_ready (rs := [8]) (by as_aux_lemma => kernel_rfl) (by simp) ?_
      refine AllReadyH.cons rfl (fun K hK => ?_) AllReadyH.nil
      go_simp
      go_at_call 20
      refine (HC2.out _ k1.own).mono ?_; rintro e u ⟨rfl, b⟩
      have BB := nx BB b
      have k1 := k1.next b
      clear b
      refine hK.out _ _ k1.cell (fun hHeld => ?_)
      clear hK K
      (try simp only [Act.put, List.setIfInBounds_toArray, List.set_cons_zero, List.set_cons_succ])
      refine wpAnyH_take (i := 9) (v := ?_) rfl (by as_aux_lemma => kernel_rfl) (by as_aux_lemma => kernel_rfl) (by as_aux_lemma => kernel_rfl) (fun _ _ _ h => h) (Or.inl ⟨by first | kernel_rfl | rfl, ?_⟩) (by assumption) ?_
      rotate_left
      · intro w hSw
        (try dsimp only at hSw)
        (try go_split_ands)
        go_simp
        try with_reducible rfl
      (try simp only [Act.put, List.setIfInBounds_toArray, List.set_cons_zero, List.set_cons_succ])
      refine wpAnyH_take (i := 10) (v := ?_) rfl (by as_aux_lemma => kernel_rfl) (by as_aux_lemma => kernel_rfl) (by as_aux_lemma => kernel_rfl) (fun _ _ _ h => h) (Or.inl ⟨by first | kernel_rfl | rfl, ?_⟩) (by assumption) ?_
      rotate_left
      · intro w hSw
        (try dsimp only at hSw)
        (try go_split_ands)
        go_simp
        try with_reducible rfl
      (try simp only [Act.put, List.setIfInBounds_toArray, List.set_cons_zero, List.set_cons_succ])
      refine wpAnyH_take (i := 11) (v := ?_) rfl (by as_aux_lemma => kernel_rfl) (by as_aux_lemma => kernel_rfl) (by as_aux_lemma => kernel_rfl) (fun _ _ _ h => h) (Or.inl ⟨by first | kernel_rfl | rfl, ?_⟩) (by assumption) ?_
      rotate_left
      · intro w hSw
        (try dsimp only at hSw)
        (try go_split_ands)
        go_simp
        try with_reducible rfl
      (try simp only [Act.put, List.setIfInBounds_toArray, List.set_cons_zero, List.set_cons_succ])
      refine wpAnyH_take (i := 12) (v := ?_) rfl (by as_aux_lemma => kernel_rfl) (by as_aux_lemma => kernel_rfl) (by as_aux_lemma => kernel_rfl) (fun _ _ _ h => h) (Or.inl ⟨by first | kernel_rfl | rfl, ?_⟩) (by assumption) ?_
      rotate_left
      · intro w hSw
        (try dsimp only at hSw)
        (try go_split_ands)
        go_simp
        try with_reducible rfl
      (try simp only [Act.put, List.setIfInBounds_toArray, List.set_cons_zero, List.set_cons_succ])
      refine wpAnyH_take (i := 13) (v := ?_) rfl (by as_aux_lemma => kernel_rfl) (by as_aux_lemma => kernel_rfl) (by as_aux_lemma => kernel_rfl) (fun _ _ _ h => h) (Or.inl ⟨by first | kernel_rfl | rfl, ?_⟩) (by assumption) ?_
      rotate_left
      · intro w hSw
        (try dsimp only at hSw)
        (try go_split_ands)
        go_simp
        try with_reducible rfl
      (try simp only [Act.put, List.setIfInBounds_toArray, List.set_cons_zero, List.set_cons_succ])
      refine wpAnyH_done (by as_aux_lemma => kernel_rfl) ?_ _
      (try simp only [List.getElem_toArray, List.getElem_cons_succ, List.getElem_cons_zero, Act.put, List.setIfInBounds_toArray, List.set_cons_zero, List.set_cons_succ])
      have q_k1 := k1.cell
      ((try dsimp only); repeat (first | ((with_reducible (show wpList _ _ _ (List.append _ _) _ _)); simp only [List.append]) | go_values | go_skip | go_guarded | go_step | go_upon | go_back))
      clear q_k1
      refine (HE1.out _ k1.own).mono ?_; rintro e v13 ⟨rfl, b⟩
      have BB := nx BB b
      have k1 := k1.next b
      clear b HE1
      ((try dsimp only); repeat (first | ((with_reducible (show wpList _ _ _ (List.append _ _) _ _)); simp only [List.append]) | go_values | go_skip | go_guarded | go_step | go_upon | go_back))
      go_meet
      exact BB
    | false =>
      ((try dsimp only); repeat (first | ((with_reducible (show wpList _ _ _ (List.append _ _) _ _)); simp only [List.append]) | go_values | go_skip | go_guarded | go_step | go_upon | go_back))
      go_meet
      exact BB
  case rest =>
  clear k1 r2
  have BB := hcut
  clear hcut HBG HAF HFB hFl
  ((try dsimp only); repeat (first | ((with_reducible (show wpList _ _ _ (List.append _ _) _ _)); simp only [List.append]) | go_values | go_skip | go_guarded | go_step | go_upon | go_back))
  have g := HB.out.below BB (Nat.le_refl _)
  refine (dCanonical_any a cap n wc g hn).mono ?_; rintro e v14 ⟨hs, ah, ch, hz, rfl, hhl, hhw, oh, b⟩
  have BB := nx BB b
  have k2 := KS.start oh
  have al := below_alloc v14 (.cells #[.slice ah hs.length ch] 26)
  have BB := nx BB al
  obtain ⟨v15, hwa⟩ : ∃ W, W = v14.alloc (.cells #[.slice ah hs.length ch] 26) := ⟨_, rfl⟩
  rw [← hwa] at BB  k2
  have H_v15 := Lib.hid hwa
  clear hwa al b g oh
  have I1 := Lib.hid (fun w h => can_impl ah ch hs hz w h (by omega))
  have I2 := Lib.hid (fun w h => can_spec ah ch hs hz w h (by omega))
  obtain ⟨cv, hcv⟩ : ∃ q, q = caR hs hz := ⟨_, rfl⟩
  obtain ⟨cb, hcb⟩ : ∃ q, q = caB hs hz := ⟨_, rfl⟩
  rw [← hcv, ← hcb] at I1 I2
  clear hcv hcb
  have q_k2 := k2.cell
  ((try dsimp only); repeat (first | ((with_reducible (show wpList _ _ _ (List.append _ _) _ _)); simp only [List.append]) | go_values | go_skip | go_guarded | go_step | go_upon | go_back))
  clear q_k2
  rw [← H_v15.out]
  refine (I1.out _ k2.own).mono ?_; rintro e v16 ⟨rfl, b⟩
  have BB := nx BB b
  have k2 := k2.next b
  clear b I1
  have q_k2 := k2.cell
  ((try dsimp only); repeat (first | ((with_reducible (show wpList _ _ _ (List.append _ _) _ _)); simp only [List.append]) | go_values | go_skip | go_guarded | go_step | go_upon | go_back))
  clear q_k2
  refine (I2.out _ k2.own).mono ?_; rintro e v17 ⟨rfl, b⟩
  have BB := nx BB b
  have k2 := k2.next b
  clear b I2
  clear k2
  ((try dsimp only); repeat (first | ((with_reducible (show wpList _ _ _ (List.append _ _) _ _)); simp only [List.append]) | go_values | go_skip | go_guarded | go_step | go_upon | go_back))
  have g := HB.out.below BB (Nat.le_refl _)
  refine (dEquivalent_any a cap n v17 g hn).mono ?_; rintro e v18 ⟨ds, ad, cd, d1, d2, rfl, hdl, hd1, hd2, od, b⟩
  have BB := nx BB b
  have kd := KS.start od
  have al := below_alloc v18 (.cells #[.slice ad ds.length cd] 26)
  have BB := nx BB al
  obtain ⟨v19, hwa⟩ : ∃ W, W = v18.alloc (.cells #[.slice ad ds.length cd] 26) := ⟨_, rfl⟩
  rw [← hwa] at BB  kd
  have H_v19 := Lib.hid hwa
  clear hwa al b g od
  have D1 := Lib.hid (fun w h => equ_impl ad cd ds d1 d2 w h (by omega))
  have D2 := Lib.hid (fun w h => equ_spec ad cd ds d1 d2 w h (by omega))
  obtain ⟨dv, hdv⟩ : ∃ q, q = eqR ds d1 d2 := ⟨_, rfl⟩
  rw [← hdv] at D1 D2
  clear hdv
  have q_kd := kd.cell
  ((try dsimp only); repeat (first | ((with_reducible (show wpList _ _ _ (List.append _ _) _ _)); simp only [List.append]) | go_values | go_skip | go_guarded | go_step | go_upon | go_back))
  clear q_kd
  rw [← H_v19.out]
  have g := HB.out.below BB (Nat.le_refl _)
  refine (dIsAut_any a cap n v19 g hn).mono ?_; rintro e v20 ⟨js, aj, cj, j, al, cl, rfl, hjl, hjm, oj, ol, b⟩
  have BB := nx BB b
  have kd := kd.next b
  have pj := ol.ints
  clear ol
  have kj := KS.start oj
  have al := below_alloc v20 (.cells #[.slice aj js.length cj] 26)
  have BB := nx BB al
  have kd := kd.next al
  have pj := pj.below al (Nat.le_refl _)
  obtain ⟨v21, hwa⟩ : ∃ W, W = v20.alloc (.cells #[.slice aj js.length cj] 26) := ⟨_, rfl⟩
  rw [← hwa] at BB kd pj kj
  have H_v21 := Lib.hid hwa
  clear hwa al b g oj
  have J1 := Lib.hid (fun w h k => aut_impl aj cj js al cl j w h k (by omega) (by omega))
  have J2 := Lib.hid (fun w h k => aut_spec aj cj js al cl j w h k (by omega) (by omega))
  obtain ⟨jv, hjv⟩ : ∃ q, q = autB js j := ⟨_, rfl⟩
  rw [← hjv] at J1 J2
  clear hjv
  have q_kd := kd.cell
  have q_kj := kj.cell
  ((try dsimp only); repeat (first | ((with_reducible (show wpList _ _ _ (List.append _ _) _ _)); simp only [List.append]) | go_values | go_skip | go_guarded | go_step | go_upon | go_back))
  clear q_kd q_kj
  rw [← H_v21.out]
  have g := HB.out.below BB (Nat.le_refl _)
  refine (dImage_any a cap n v21 g hn).mono ?_; rintro e v22 ⟨ms, am, cm, m, an, cn, mz, rfl, hml, hmm, hmw, om, on_, b⟩
  have BB := nx BB b
  have kd := kd.next b
  have kj := kj.next b
  have pj := pj.below b (Nat.le_refl _)
  have pm := on_.ints
  clear on_
  have km := KS.start om
  have al := below_alloc v22 (.cells #[.slice am ms.length cm] 26)
  have BB := nx BB al
  have kd := kd.next al
  have kj := kj.next al
  have pj := pj.below al (Nat.le_refl _)
  have pm := pm.below al (Nat.le_refl _)
  obtain ⟨v23, hwa⟩ : ∃ W, W = v22.alloc (.cells #[.slice am ms.length cm] 26) := ⟨_, rfl⟩
  rw [← hwa] at BB kd kj pj pm km
  have H_v23 := Lib.hid hwa
  clear hwa al b g om
  have M1 := Lib.hid (fun w h k => img_impl am cm ms an cn m mz w h k (by omega) (by omega))
  have M2 := Lib.hid (fun w h k => img_spec am cm ms an cn m mz w h k (by omega) (by omega))
  obtain ⟨mv, hmv⟩ : ∃ q, q = imgV ms m mz := ⟨_, rfl⟩
  rw [← hmv] at M1 M2
  clear hmv
  have q_kd := kd.cell
  have q_kj := kj.cell
  have q_km := km.cell
  ((try dsimp only); repeat (first | ((with_reducible (show wpList _ _ _ (List.append _ _) _ _)); simp only [List.append]) | go_values | go_skip | go_guarded | go_step | go_upon | go_back))
  clear q_kd q_kj q_km
  rw [← H_v23.out]
  have g := HB.out.below BB (Nat.le_refl _)
  refine (dCountCl_any a cap n v23 g hn).mono ?_; rintro e v24 ⟨ps, ap, cp, q, rfl, hpl, hqw, op, b⟩
  have BB := nx BB b
  have kd := kd.next b
  have kj := kj.next b
  have km := km.next b
  have pj := pj.below b (Nat.le_refl _)
  have pm := pm.below b (Nat.le_refl _)
  have kp := KS.start op
  have al := below_alloc v24 (.cells #[.slice ap ps.length cp] 26)
  have BB := nx BB al
  have kd := kd.next al
  have kj := kj.next al
  have km := km.next al
  have pj := pj.below al (Nat.le_refl _)
  have pm := pm.below al (Nat.le_refl _)
  obtain ⟨v25, hwa⟩ : ∃ W, W = v24.alloc (.cells #[.slice ap ps.length cp] 26) := ⟨_, rfl⟩
  rw [← hwa] at BB kd kj km pj pm kp
  have H_v25 := Lib.hid hwa
  clear hwa al b g op
  have P1 := Lib.hid (fun w h => ccl_impl ap cp ps q w h (by omega))
  have P2 := Lib.hid (fun w h => ccl_spec ap cp ps q w h (by omega))
  obtain ⟨pv, hpv⟩ : ∃ v, v = ccR ps q := ⟨_, rfl⟩
  rw [← hpv] at P1 P2
  clear hpv
  have q_kd := kd.cell
  have q_kj := kj.cell
  have q_km := km.cell
  have q_kp := kp.cell
  ((try dsimp only); repeat (first | ((with_reducible (show wpList _ _ _ (List.append _ _) _ _)); simp only [List.append]) | go_values | go_skip | go_guarded | go_step | go_upon | go_back))
  clear q_kd q_kj q_km q_kp
  rw [← H_v25.out]
  have BB := below_drew BB
  have kd := kd.drew
  have kj := kj.drew
  have km := km.drew
  have kp := kp.drew
  have pj := pj.drewI
  have pm := pm.drewI
  refine wp_region_held_drew (S := (fun w' => w'.cell? ⟨v18.heap.size, 0, none⟩ = some (.slice ad ds.length cd) ∧ w'.cell? ⟨v20.heap.size, 0, none⟩ = some (.slice aj js.length cj) ∧ w'.cell? ⟨v22.heap.size, 0, none⟩ = some (.slice am ms.length cm) ∧ w'.cell? ⟨v24.heap.size, 0, none⟩ = some (.slice ap ps.length cp))) (by as_aux_lemma => kernel_rfl) ⟨kd.cell, kj.cell, km.cell, kp.cell⟩ (fun hHeld => ?_)
  refine wpAnyH_take (i := 0) (v := ?_) rfl (by as_aux_lemma => kernel_rfl) (by as_aux_lemma => kernel_rfl) (by as_aux_lemma => kernel_rfl) (fun _ _ _ h => h) (Or.inl ⟨by first | kernel_rfl | rfl, ?_⟩) (by assumption) ?_
  rotate_left
  · intro w hSw
    (try dsimp only at hSw)
    (try go_split_ands)
    go_simp
    try with_reducible rfl
  (try simp only [Act.put, List.setIfInBounds_toArray, List.set_cons_zero, List.set_cons_succ])
  refine wpAnyH_take (i := 1) (v := ?_) rfl (by as_aux_lemma => kernel_rfl) (by as_aux_lemma => kernel_rfl) (by as_aux_lemma => kernel_rfl) (fun _ _ _ h => h) (Or.inl ⟨by first | kernel_rfl | rfl, ?_⟩) (by assumption) ?_
  rotate_left
  · intro w hSw
    (try dsimp only at hSw)
    (try go_split_ands)
    go_simp
    try with_reducible rfl
  (try simp only [Act.put, List.setIfInBounds_toArray, List.set_cons_zero, List.set_cons_succ])
  refine wpAnyH_take (i := 2) (v := ?_) rfl (by as_aux_lemma => kernel_rfl) (by as_aux_lemma => kernel_rfl) (by as_aux_lemma => kernel_rfl) (fun _ _ _ h => h) (Or.inl ⟨by first | kernel_rfl | rfl, ?_⟩) (by assumption) ?_
  rotate_left
  · intro w hSw
    (try dsimp only at hSw)
    (try go_split_ands)
    go_simp
    try with_reducible rfl
  (try simp only [Act.put, List.setIfInBounds_toArray, List.set_cons_zero, List.set_cons_succ])
  refine wpAnyH_take (i := 3) (v := ?_) rfl (by as_aux_lemma => kernel_rfl) (by as_aux_lemma => kernel_rfl) (by as_aux_lemma => kernel_rfl) (fun _ _ _ h => h) (Or.inl ⟨by first | kernel_rfl | rfl, ?_⟩) (by assumption) ?_
  rotate_left
  · intro w hSw
    (try dsimp only at hSw)
    (try go_split_ands)
    go_simp
    try with_reducible rfl
  (try simp only [Act.put, List.setIfInBounds_toArray, List.set_cons_zero, List.set_cons_succ])
  refine wpAnyH_take (i := 4) (v := ?_) rfl (by as_aux_lemma => kernel_rfl) (by as_aux_lemma => kernel_rfl) (by as_aux_lemma => kernel_rfl) (fun _ _ _ h => h) (Or.inl ⟨by first | kernel_rfl | rfl, ?_⟩) (by assumption) ?_
  rotate_left
  · intro w hSw
    (try dsimp only at hSw)
    (try go_split_ands)
    go_simp
    try with_reducible rfl
  (try simp only [Act.put, List.setIfInBounds_toArray, List.set_cons_zero, List.set_cons_succ])
  refine wpAnyH_take (i := 5) (v := ?_) rfl (by as_aux_lemma => kernel_rfl) (by as_aux_lemma => kernel_rfl) (by as_aux_lemma => kernel_rfl) (fun _ _ _ h => h) (Or.inl ⟨by first | kernel_rfl | rfl, ?_⟩) (by assumption) ?_
  rotate_left
  · intro w hSw
    (try dsimp only at hSw)
    (try go_split_ands)
    go_simp
    try with_reducible rfl
  (try simp only [Act.put, List.setIfInBounds_toArray, List.set_cons_zero, List.set_cons_succ])
  refine wpAnyH_take (i := 6) (v := ?_) rfl (by as_aux_lemma => kernel_rfl) (by as_aux_lemma => kernel_rfl) (by as_aux_lemma => kernel_rfl) (fun _ _ _ h => h) (Or.inl ⟨by first | kernel_rfl | rfl, ?_⟩) (by assumption) ?_
  rotate_left
  · intro w hSw
    (try dsimp only at hSw)
    (try go_split_ands)
    go_simp
    try with_reducible rfl
  (try simp only [Act.put, List.setIfInBounds_toArray, List.set_cons_zero, List.set_cons_succ])
  refine wpAnyH_take (i := 7) (v := ?_) rfl (by as_aux_lemma => kernel_rfl) (by as_aux_lemma => kernel_rfl) (by as_aux_lemma => kernel_rfl) (fun _ _ _ h => h) (Or.inl ⟨by first | kernel_rfl | rfl, ?_⟩) (by assumption) ?_
  rotate_left
  · intro w hSw
    (try dsimp only at hSw)
    (try go_split_ands)
    go_simp
    try with_reducible rfl
  (try simp only [Act.put, List.setIfInBounds_toArray, List.set_cons_zero, List.set_cons_succ])
  refine wpAnyH_take (i := 8) (v := ?_) rfl (by as_aux_lemma => kernel_rfl) (by as_aux_lemma => kernel_rfl) (by as_aux_lemma => kernel_rfl) (fun _ _ _ h => h) (Or.inl ⟨by first | kernel_rfl | rfl, ?_⟩) (by assumption) ?_
  rotate_left
  · intro w hSw
    (try dsimp only at hSw)
    (try go_split_ands)
    go_simp
    try with_reducible rfl
  (try simp only [Act.put, List.setIfInBounds_toArray, List.set_cons_zero, List.set_cons_succ])
  refine wpAnyH_take (i := 9) (v := ?_) rfl (by as_aux_lemma => kernel_rfl) (by as_aux_lemma => kernel_rfl) (by as_aux_lemma => kernel_rfl) (fun _ _ _ h => h) (Or.inl ⟨by first | kernel_rfl | rfl, ?_⟩) (by assumption) ?_
  rotate_left
  · intro w hSw
    (try dsimp only at hSw)
    (try go_split_ands)
    go_simp
    try with_reducible rfl
  (try simp only [Act.put, List.setIfInBounds_toArray, List.set_cons_zero, List.set_cons_succ])
  refine wpAnyH_take (i := 10) (v := ?_) rfl (by as_aux_lemma => kernel_rfl) (by as_aux_lemma => kernel_rfl) (by as_aux_lemma => kernel_rfl) (fun _ _ _ h => h) (Or.inl ⟨by first | kernel_rfl | rfl, ?_⟩) (by assumption) ?_
  rotate_left
  · intro w hSw
    (try dsimp only at hSw)
    (try go_split_ands)
    go_simp
    try with_reducible rfl
  (try simp only [Act.put, List.setIfInBounds_toArray, List.set_cons_zero, List.set_cons_succ])
  refine wpAnyH_take (i := 11) (v := ?_) rfl (by as_aux_lemma => kernel_rfl) (by as_aux_lemma => kernel_rfl) (by as_aux_lemma => kernel_rfl) (fun _ _ _ h => h) (Or.inl ⟨by first | kernel_rfl | rfl, ?_⟩) (by assumption) ?_
  rotate_left
  · intro w hSw
    (try dsimp only at hSw)
    (try go_split_ands)
    go_simp
    try with_reducible rfl
  (try simp only [Act.put, List.setIfInBounds_toArray, List.set_cons_zero, List.set_cons_succ])
  refine wpAnyH_take (i := 13) (v := ?_) rfl (by as_aux_lemma => kernel_rfl) (by as_aux_lemma => kernel_rfl) (by as_aux_lemma => kernel_rfl) (fun _ _ _ h => h) (Or.inl ⟨by first | kernel_rfl | rfl, ?_⟩) (by assumption) ?_
  rotate_left
  · intro w hSw
    (try dsimp only at hSw)
    (try go_split_ands)
    go_simp
    try with_reducible rfl
  (try simp only [Act.put, List.setIfInBounds_toArray, List.set_cons_zero, List.set_cons_succ])
  refine wpAnyH_take (i := 14) (v := ?_) rfl (by as_aux_lemma => kernel_rfl) (by as_aux_lemma => kernel_rfl) (by as_aux_lemma => kernel_rfl) (fun _ _ _ h => h) (Or.inl ⟨by first | kernel_rfl | rfl, ?_⟩) (by assumption) ?_
  rotate_left
  · intro w hSw
    (try dsimp only at hSw)
    (try go_split_ands)
    go_simp
    try with_reducible rfl
  (try simp only [Act.put, List.setIfInBounds_toArray, List.set_cons_zero, List.set_cons_succ])
  refine wpAnyH_take (i := 15) (v := ?_) rfl (by as_aux_lemma => kernel_rfl) (by as_aux_lemma => kernel_rfl) (by as_aux_lemma => kernel_rfl) (fun _ _ _ h => h) (Or.inl ⟨by first | kernel_rfl | rfl, ?_⟩) (by assumption) ?_
  rotate_left
  · intro w hSw
    (try dsimp only at hSw)
    (try go_split_ands)
    go_simp
    try with_reducible rfl
  (try simp only [Act.put, List.setIfInBounds_toArray, List.set_cons_zero, List.set_cons_succ])
  refine wpAnyH_ready (rs := [12]) (by as_aux_lemma => kernel_rfl) (by simp) ?_
  refine AllReadyH.cons rfl (fun K hK => ?_) AllReadyH.nil
  go_simp
  go_at_call 22
  refine (D1.out _ kd.own).mono ?_; rintro e u ⟨rfl, b⟩
  have BB := nx BB b
  have kd := kd.next b
  have kj := kj.next b
  have km := km.next b
  have kp := kp.next b
  have pj := pj.below b (Nat.le_refl _)
  have pm := pm.below b (Nat.le_refl _)
  clear b
  refine hK.out _ _ ⟨kd.cell, kj.cell, km.cell, kp.cell⟩ (fun hHeld => ?_)
  clear hK K
  (try simp only [Act.put, List.setIfInBounds_toArray, List.set_cons_zero, List.set_cons_succ])
  refine wpAnyH_ready (rs := [16]) (by as_aux_lemma => kernel_rfl) (by simp) ?_
  refine AllReadyH.cons rfl (fun K hK => ?_) AllReadyH.nil
  go_simp
  go_at_call 29
  refine (D2.out _ kd.own).mono ?_; rintro e u ⟨rfl, b⟩
  have BB := nx BB b
  have kd := kd.next b
  have kj := kj.next b
  have km := km.next b
  have kp := kp.next b
  have pj := pj.below b (Nat.le_refl _)
  have pm := pm.below b (Nat.le_refl _)
  clear b
  refine hK.out _ _ ⟨kd.cell, kj.cell, km.cell, kp.cell⟩ (fun hHeld => ?_)
  clear hK K
  (try simp only [Act.put, List.setIfInBounds_toArray, List.set_cons_zero, List.set_cons_succ])
  refine wpAnyH_take (i := 17) (v := ?_) rfl (by as_aux_lemma => kernel_rfl) (by as_aux_lemma => kernel_rfl) (by as_aux_lemma => kernel_rfl) (fun _ _ _ h => h) (Or.inl ⟨by first | kernel_rfl | rfl, ?_⟩) (by assumption) ?_
  rotate_left
  · intro w hSw
    (try dsimp only at hSw)
    (try go_split_ands)
    go_simp
    try with_reducible rfl
  (try simp only [Act.put, List.setIfInBounds_toArray, List.set_cons_zero, List.set_cons_succ])
  refine wpAnyH_take (i := 18) (v := ?_) rfl (by as_aux_lemma => kernel_rfl) (by as_aux_lemma => kernel_rfl) (by as_aux_lemma => kernel_rfl) (fun _ _ _ h => h) (Or.inl ⟨by first | kernel_rfl | rfl, ?_⟩) (by assumption) ?_
  rotate_left
  · intro w hSw
    (try dsimp only at hSw)
    (try go_split_ands)
    go_simp
    try with_reducible rfl
  (try simp only [Act.put, List.setIfInBounds_toArray, List.set_cons_zero, List.set_cons_succ])
  refine wpAnyH_take (i := 19) (v := ?_) rfl (by as_aux_lemma => kernel_rfl) (by as_aux_lemma => kernel_rfl) (by as_aux_lemma => kernel_rfl) (fun _ _ _ h => h) (Or.inl ⟨by first | kernel_rfl | rfl, ?_⟩) (by assumption) ?_
  rotate_left
  · intro w hSw
    (try dsimp only at hSw)
    (try go_split_ands)
    go_simp
    try with_reducible rfl
  (try simp only [Act.put, List.setIfInBounds_toArray, List.set_cons_zero, List.set_cons_succ])
  refine wpAnyH_take (i := 20) (v := ?_) rfl (by as_aux_lemma => kernel_rfl) (by as_aux_lemma => kernel_rfl) (by as_aux_lemma => kernel_rfl) (fun _ _ _ h => h) (Or.inl ⟨by first | kernel_rfl | rfl, ?_⟩) (by assumption) ?_
  rotate_left
  · intro w hSw
    (try dsimp only at hSw)
    (try go_split_ands)
    go_simp
    try with_reducible rfl
  (try simp only [Act.put, List.setIfInBounds_toArray, List.set_cons_zero, List.set_cons_succ])
  refine wpAnyH_take (i := 21) (v := ?_) rfl (by as_aux_lemma => kernel_rfl) (by as_aux_lemma => kernel_rfl) (by as_aux_lemma => kernel_rfl) (fun _ _ _ h => h) (Or.inl ⟨by first | kernel_rfl | rfl, ?_⟩) (by assumption) ?_
  rotate_left
  · intro w hSw
    (try dsimp only at hSw)
    (try go_split_ands)
    go_simp
    try with_reducible rfl
  (try simp only [Act.put, List.setIfInBounds_toArray, List.set_cons_zero, List.set_cons_succ])
  refine wpAnyH_take (i := 23) (v := ?_) rfl (by as_aux_lemma => kernel_rfl) (by as_aux_lemma => kernel_rfl) (by as_aux_lemma => kernel_rfl) (fun _ _ _ h => h) (Or.inl ⟨by first | kernel_rfl | rfl, ?_⟩) (by assumption) ?_
  rotate_left
  · intro w hSw
    (try dsimp only at hSw)
    (try go_split_ands)
    go_simp
    try with_reducible rfl
  (try simp only [Act.put, List.setIfInBounds_toArray, List.set_cons_zero, List.set_cons_succ])
  refine wpAnyH_take (i := 24) (v := ?_) rfl (by as_aux_lemma => kernel_rfl) (by as_aux_lemma => kernel_rfl) (by as_aux_lemma => kernel_rfl) (fun _ _ _ h => h) (Or.inl ⟨by first | kernel_rfl | rfl, ?_⟩) (by assumption) ?_
  rotate_left
  · intro w hSw
    (try dsimp only at hSw)
    (try go_split_ands)
    go_simp
    try with_reducible rfl
  (try simp only [Act.put, List.setIfInBounds_toArray, List.set_cons_zero, List.set_cons_succ])
  refine wpAnyH_ready (rs := [22]) (by as_aux_lemma => kernel_rfl) (by simp) ?_
  refine AllReadyH.cons rfl (fun K hK => ?_) AllReadyH.nil
  go_simp
  go_at_call 17
  refine (J1.out _ kj.own pj).mono ?_; rintro e u ⟨rfl, b⟩
  have BB := nx BB b
  have kd := kd.next b
  have kj := kj.next b
  have km := km.next b
  have kp := kp.next b
  have pj := pj.below b (Nat.le_refl _)
  have pm := pm.below b (Nat.le_refl _)
  clear b
  refine hK.out _ _ ⟨kd.cell, kj.cell, km.cell, kp.cell⟩ (fun hHeld => ?_)
  clear hK K
  (try simp only [Act.put, List.setIfInBounds_toArray, List.set_cons_zero, List.set_cons_succ])
  refine wpAnyH_ready (rs := [25]) (by as_aux_lemma => kernel_rfl) (by simp) ?_
  refine AllReadyH.cons rfl (fun K hK => ?_) AllReadyH.nil
  go_simp
  go_at_call 30
  refine (J2.out _ kj.own pj).mono ?_; rintro e u ⟨rfl, b⟩
  have BB := nx BB b
  have kd := kd.next b
  have kj := kj.next b
  have km := km.next b
  have kp := kp.next b
  have pj := pj.below b (Nat.le_refl _)
  have pm := pm.below b (Nat.le_refl _)
  clear b
  refine hK.out _ _ ⟨kd.cell, kj.cell, km.cell, kp.cell⟩ (fun hHeld => ?_)
  clear hK K
  (try simp only [Act.put, List.setIfInBounds_toArray, List.set_cons_zero, List.set_cons_succ])
  refine wpAnyH_take (i := 26) (v := ?_) rfl (by as_aux_lemma => kernel_rfl) (by as_aux_lemma => kernel_rfl) (by as_aux_lemma => kernel_rfl) (fun _ _ _ h => h) (Or.inl ⟨by first | kernel_rfl | rfl, ?_⟩) (by assumption) ?_
  rotate_left
  · intro w hSw
    (try dsimp only at hSw)
    (try go_split_ands)
    go_simp
    try with_reducible rfl
  (try simp only [Act.put, List.setIfInBounds_toArray, List.set_cons_zero, List.set_cons_succ])
  refine wpAnyH_take (i := 27) (v := ?_) rfl (by as_aux_lemma => kernel_rfl) (by as_aux_lemma => kernel_rfl) (by as_aux_lemma => kernel_rfl) (fun _ _ _ h => h) (Or.inl ⟨by first | kernel_rfl | rfl, ?_⟩) (by assumption) ?_
  rotate_left
  · intro w hSw
    (try dsimp only at hSw)
    (try go_split_ands)
    go_simp
    try with_reducible rfl
  (try simp only [Act.put, List.setIfInBounds_toArray, List.set_cons_zero, List.set_cons_succ])
  refine wpAnyH_take (i := 28) (v := ?_) rfl (by as_aux_lemma => kernel_rfl) (by as_aux_lemma => kernel_rfl) (by as_aux_lemma => kernel_rfl) (fun _ _ _ h => h) (Or.inl ⟨by first | kernel_rfl | rfl, ?_⟩) (by assumption) ?_
  rotate_left
  · intro w hSw
    (try dsimp only at hSw)
    (try go_split_ands)
    go_simp
    try with_reducible rfl
  (try simp only [Act.put, List.setIfInBounds_toArray, List.set_cons_zero, List.set_cons_succ])
  refine wpAnyH_take (i := 29) (v := ?_) rfl (by as_aux_lemma => kernel_rfl) (by as_aux_lemma => kernel_rfl) (by as_aux_lemma => kernel_rfl) (fun _ _ _ h => h) (Or.inl ⟨by first | kernel_rfl | rfl, ?_⟩) (by assumption) ?_
  rotate_left
  · intro w hSw
    (try dsimp only at hSw)
    (try go_split_ands)
    go_simp
    try with_reducible rfl
  (try simp only [Act.put, List.setIfInBounds_toArray, List.set_cons_zero, List.set_cons_succ])
  refine wpAnyH_take (i := 30) (v := ?_) rfl (by as_aux_lemma => kernel_rfl) (by as_aux_lemma => kernel_rfl) (by as_aux_lemma => kernel_rfl) (fun _ _ _ h => h) (Or.inl ⟨by first | kernel_rfl | rfl, ?_⟩) (by assumption) ?_
  rotate_left
  · intro w hSw
    (try dsimp only at hSw)
    (try go_split_ands)
    go_simp
    try with_reducible rfl
  (try simp only [Act.put, List.setIfInBounds_toArray, List.set_cons_zero, List.set_cons_succ])
  refine wpAnyH_take (i := 31) (v := ?_) rfl (by as_aux_lemma => kernel_rfl) (by as_aux_lemma => kernel_rfl) (by as_aux_lemma => kernel_rfl) (fun _ _ _ h => h) (Or.inl ⟨by first | kernel_rfl | rfl, ?_⟩) (by assumption) ?_
  rotate_left
  · intro w hSw
    (try dsimp only at hSw)
    (try go_split_ands)
    go_simp
    try with_reducible rfl
  (try simp only [Act.put, List.setIfInBounds_toArray, List.set_cons_zero, List.set_cons_succ])
  refine wpAnyH_take (i := 33) (v := ?_) rfl (by as_aux_lemma => kernel_rfl) (by as_aux_lemma => kernel_rfl) (by as_aux_lemma => kernel_rfl) (fun _ _ _ h => h) (Or.inl ⟨by first | kernel_rfl | rfl, ?_⟩) (by assumption) ?_
  rotate_left
  · intro w hSw
    (try dsimp only at hSw)
    (try go_split_ands)
    go_simp
    try with_reducible rfl
  (try simp only [Act.put, List.setIfInBounds_toArray, List.set_cons_zero, List.set_cons_succ])
  refine wpAnyH_take (i := 34) (v := ?_) rfl (by as_aux_lemma => kernel_rfl) (by as_aux_lemma => kernel_rfl) (by as_aux_lemma => kernel_rfl) (fun _ _ _ h => h) (Or.inl ⟨by first | kernel_rfl | rfl, ?_⟩) (by assumption) ?_
  rotate_left
  · intro w hSw
    (try dsimp only at hSw)
    (try go_split_ands)
    go_simp
    try with_reducible rfl
  (try simp only [Act.put, List.setIfInBounds_toArray, List.set_cons_zero, List.set_cons_succ])
  refine wpAnyH_take (i := 35) (v := ?_) rfl (by as_aux_lemma => kernel_rfl) (by as_aux_lemma => kernel_rfl) (by as_aux_lemma => kernel_rfl) (fun _ _ _ h => h) (Or.inl ⟨by first | kernel_rfl | rfl, ?_⟩) (by assumption) ?_
  rotate_left
  · intro w hSw
    (try dsimp only at hSw)
    (try go_split_ands)
    go_simp
    try with_reducible rfl
  (try simp only [Act.put, List.setIfInBounds_toArray, List.set_cons_zero, List.set_cons_succ])
  refine wpAnyH_ready (rs := [32]) (by as_aux_lemma => kernel_rfl) (by simp) ?_
  refine AllReadyH.cons rfl (fun K hK => ?_) AllReadyH.nil
  go_simp
  go_at_call 16
  refine (M1.out _ km.own pm).mono ?_; rintro e u ⟨rfl, b⟩
  have BB := nx BB b
  have kd := kd.next b
  have kj := kj.next b
  have km := km.next b
  have kp := kp.next b
  have pj := pj.below b (Nat.le_refl _)
  have pm := pm.below b (Nat.le_refl _)
  clear b
  refine hK.out _ _ ⟨kd.cell, kj.cell, km.cell, kp.cell⟩ (fun hHeld => ?_)
  clear hK K
  (try simp only [Act.put, List.setIfInBounds_toArray, List.set_cons_zero, List.set_cons_succ])
  refine wpAnyH_ready (rs := [36]) (by as_aux_lemma => kernel_rfl) (by simp) ?_
  refine AllReadyH.cons rfl (fun K hK => ?_) AllReadyH.nil
  go_simp
  go_at_call 31
  refine (M2.out _ km.own pm).mono ?_; rintro e u ⟨rfl, b⟩
  have BB := nx BB b
  have kd := kd.next b
  have kj := kj.next b
  have km := km.next b
  have kp := kp.next b
  have pj := pj.below b (Nat.le_refl _)
  have pm := pm.below b (Nat.le_refl _)
  clear b
  refine hK.out _ _ ⟨kd.cell, kj.cell, km.cell, kp.cell⟩ (fun hHeld => ?_)
  clear hK K
  (try simp only [Act.put, List.setIfInBounds_toArray, List.set_cons_zero, List.set_cons_succ])
  refine wpAnyH_take (i := 37) (v := ?_) rfl (by as_aux_lemma => kernel_rfl) (by as_aux_lemma => kernel_rfl) (by as_aux_lemma => kernel_rfl) (fun _ _ _ h => h) (Or.inl ⟨by first | kernel_rfl | rfl, ?_⟩) (by assumption) ?_
  rotate_left
  · intro w hSw
    (try dsimp only at hSw)
    (try go_split_ands)
    go_simp
    try with_reducible rfl
  (try simp only [Act.put, List.setIfInBounds_toArray, List.set_cons_zero, List.set_cons_succ])
  refine wpAnyH_take (i := 38) (v := ?_) rfl (by as_aux_lemma => kernel_rfl) (by as_aux_lemma => kernel_rfl) (by as_aux_lemma => kernel_rfl) (fun _ _ _ h => h) (Or.inl ⟨by first | kernel_rfl | rfl, ?_⟩) (by assumption) ?_
  rotate_left
  · intro w hSw
    (try dsimp only at hSw)
    (try go_split_ands)
    go_simp
    try with_reducible rfl
  (try simp only [Act.put, List.setIfInBounds_toArray, List.set_cons_zero, List.set_cons_succ])
  refine wpAnyH_take (i := 39) (v := ?_) rfl (by as_aux_lemma => kernel_rfl) (by as_aux_lemma => kernel_rfl) (by as_aux_lemma => kernel_rfl) (fun _ _ _ h => h) (Or.inl ⟨by first | kernel_rfl | rfl, ?_⟩) (by assumption) ?_
  rotate_left
  · intro w hSw
    (try dsimp only at hSw)
    (try go_split_ands)
    go_simp
    try with_reducible rfl
  (try simp only [Act.put, List.setIfInBounds_toArray, List.set_cons_zero, List.set_cons_succ])
  refine wpAnyH_take (i := 40) (v := ?_) rfl (by as_aux_lemma => kernel_rfl) (by as_aux_lemma => kernel_rfl) (by as_aux_lemma => kernel_rfl) (fun _ _ _ h => h) (Or.inl ⟨by first | kernel_rfl | rfl, ?_⟩) (by assumption) ?_
  rotate_left
  · intro w hSw
    (try dsimp only at hSw)
    (try go_split_ands)
    go_simp
    try with_reducible rfl
  (try simp only [Act.put, List.setIfInBounds_toArray, List.set_cons_zero, List.set_cons_succ])
  refine wpAnyH_take (i := 41) (v := ?_) rfl (by as_aux_lemma => kernel_rfl) (by as_aux_lemma => kernel_rfl) (by as_aux_lemma => kernel_rfl) (fun _ _ _ h => h) (Or.inl ⟨by first | kernel_rfl | rfl, ?_⟩) (by assumption) ?_
  rotate_left
  · intro w hSw
    (try dsimp only at hSw)
    (try go_split_ands)
    go_simp
    try with_reducible rfl
  (try simp only [Act.put, List.setIfInBounds_toArray, List.set_cons_zero, List.set_cons_succ])
  refine wpAnyH_take (i := 43) (v := ?_) rfl (by as_aux_lemma => kernel_rfl) (by as_aux_lemma => kernel_rfl) (by as_aux_lemma => kernel_rfl) (fun _ _ _ h => h) (Or.inl ⟨by first | kernel_rfl | rfl, ?_⟩) (by assumption) ?_
  rotate_left
  · intro w hSw
    (try dsimp only at hSw)
    (try go_split_ands)
    go_simp
    try with_reducible rfl
  (try simp only [Act.put, List.setIfInBounds_toArray, List.set_cons_zero, List.set_cons_succ])
  refine wpAnyH_take (i := 44) (v := ?_) rfl (by as_aux_lemma => kernel_rfl) (by as_aux_lemma => kernel_rfl) (by as_aux_lemma => kernel_rfl) (fun _ _ _ h => h) (Or.inl ⟨by first | kernel_rfl | rfl, ?_⟩) (by assumption) ?_
  rotate_left
  · intro w hSw
    (try dsimp only at hSw)
    (try go_split_ands)
    go_simp
    try with_reducible rfl
  (try simp only [Act.put, List.setIfInBounds_toArray, List.set_cons_zero, List.set_cons_succ])
  refine wpAnyH_ready (rs := [42]) (by as_aux_lemma => kernel_rfl) (by simp) ?_
  refine AllReadyH.cons rfl (fun K hK => ?_) AllReadyH.nil
  go_simp
  go_at_call 32
  refine (P1.out _ kp.own).mono ?_; rintro e u ⟨rfl, b⟩
  have BB := nx BB b
  have kd := kd.next b
  have kj := kj.next b
  have km := km.next b
  have kp := kp.next b
  have pj := pj.below b (Nat.le_refl _)
  have pm := pm.below b (Nat.le_refl _)
  clear b
  refine hK.out _ _ ⟨kd.cell, kj.cell, km.cell, kp.cell⟩ (fun hHeld => ?_)
  clear hK K
  (try simp only [Act.put, List.setIfInBounds_toArray, List.set_cons_zero, List.set_cons_succ])
  refine wpAnyH_ready (rs := [45]) (by as_aux_lemma => kernel_rfl) (by simp) ?_
  refine AllReadyH.cons rfl (fun K hK => ?_) AllReadyH.nil
  go_simp
  go_at_call 33
  refine (P2.out _ kp.own).mono ?_; rintro e u ⟨rfl, b⟩
  have BB := nx BB b
  have kd := kd.next b
  have kj := kj.next b
  have km := km.next b
  have kp := kp.next b
  have pj := pj.below b (Nat.le_refl _)
  have pm := pm.below b (Nat.le_refl _)
  clear b
  refine hK.out _ _ ⟨kd.cell, kj.cell, km.cell, kp.cell⟩ (fun hHeld => ?_)
  clear hK K
  (try simp only [Act.put, List.setIfInBounds_toArray, List.set_cons_zero, List.set_cons_succ])
  refine wpAnyH_take (i := 46) (v := ?_) rfl (by as_aux_lemma => kernel_rfl) (by as_aux_lemma => kernel_rfl) (by as_aux_lemma => kernel_rfl) (fun _ _ _ h => h) (Or.inl ⟨by first | kernel_rfl | rfl, ?_⟩) (by assumption) ?_
  rotate_left
  · intro w hSw
    (try dsimp only at hSw)
    (try go_split_ands)
    go_simp
    try with_reducible rfl
  (try simp only [Act.put, List.setIfInBounds_toArray, List.set_cons_zero, List.set_cons_succ])
  refine wpAnyH_take (i := 47) (v := ?_) rfl (by as_aux_lemma => kernel_rfl) (by as_aux_lemma => kernel_rfl) (by as_aux_lemma => kernel_rfl) (fun _ _ _ h => h) (Or.inl ⟨by first | kernel_rfl | rfl, ?_⟩) (by assumption) ?_
  rotate_left
  · intro w hSw
    (try dsimp only at hSw)
    (try go_split_ands)
    go_simp
    try with_reducible rfl
  (try simp only [Act.put, List.setIfInBounds_toArray, List.set_cons_zero, List.set_cons_succ])
  refine wpAnyH_take (i := 48) (v := ?_) rfl (by as_aux_lemma => kernel_rfl) (by as_aux_lemma => kernel_rfl) (by as_aux_lemma => kernel_rfl) (fun _ _ _ h => h) (Or.inl ⟨by first | kernel_rfl | rfl, ?_⟩) (by assumption) ?_
  rotate_left
  · intro w hSw
    (try dsimp only at hSw)
    (try go_split_ands)
    go_simp
    try with_reducible rfl
  (try simp only [Act.put, List.setIfInBounds_toArray, List.set_cons_zero, List.set_cons_succ])
  refine wpAnyH_done (by as_aux_lemma => kernel_rfl) ?_ _
  (try simp only [List.getElem_toArray, List.getElem_cons_succ, List.getElem_cons_zero, Act.put, List.setIfInBounds_toArray, List.set_cons_zero, List.set_cons_succ])
  ((try dsimp only); repeat (first | ((with_reducible (show wpList _ _ _ (List.append _ _) _ _)); simp only [List.append]) | go_values | go_skip | go_guarded | go_step | go_upon | go_back))
  go_ret
  exact ⟨ret_bool (by simp), BB⟩

end Go.Proofs.Ytokpgbpdmfibjaa
