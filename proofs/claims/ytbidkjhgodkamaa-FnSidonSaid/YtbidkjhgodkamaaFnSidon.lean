/-
Sets of Sidon obey the bound, have the least energy, and difference sets are counted. No condition.
-/
import Derived.Test.YtbidkjhgodkamaaDrw8
import Derived.Test.YtbidkjhgodkamaaEne
import Derived.Test.YtbidkjhgodkamaaKep
import Derived.Test.YtbidkjhgodkamaaOpb
import Derived.Test.YtbidkjhgodkamaaSmi
import Derived.Test.YtbidkjhgodkamaaSdq
import Derived.Test.YtbidkjhgodkamaaCso2
import Derived.Deep.Cut
namespace Go.Proofs.Ytbidkjhgodkamaa
open Go.ChangeShapes Go.RowKit
set_option linter.unusedVariables false
set_option linter.unusedSimpArgs false

set_option maxRecDepth 20000 in
set_option maxHeartbeats 6400000 in
theorem walk_fnSidon (a : Option Addr) (cap n : Nat) (w : World) (hb : BtS w a cap n) :
    Calls Try.prog 4 #[.slice a n cap] w fun e w' => e = .returned (.bool true) ∧ Below w.heap.size w w' := by
  by_cases hbig : 1048576 < n
  · have hbg : decide (1048576 < n) = true := by simpa using hbig
    have C0 := big_any a cap n w
    rw [hbg] at C0
    go_enter Try.func4, Try.ntmps4
    go_wp2_with fail
    refine C0.mono ?_; rintro e w1 ⟨rfl, b1⟩
    go_wp2_with fail
    go_ret
    exact ⟨rfl, b1⟩
  have hn : n ≤ 2000000 := by omega
  have hbg : decide (1048576 < n) = false := by simpa using hbig
  have C0 := Lib.hid (big_any a cap n w)
  rw [hbg] at C0
  have HB := Lib.hid hb
  clear hbg hbig hb
  go_enter Try.func4, Try.ntmps4
  go_wp2_with fail
  refine C0.out.mono ?_; rintro e v1 ⟨rfl, b⟩
  have BB := b
  clear C0 b
  go_wp2_with fail
  have g := HB.out.below BB (Nat.le_refl _)
  refine (dIsSidon_any a cap n v1 g hn).mono ?_; rintro e v2 ⟨os, ag, cg, x, rfl, hos, hx, og, b⟩
  have BB := nx BB b
  have k1 := KS.start og
  have al := below_alloc v2 (.cells #[.slice ag os.length cg] 26)
  have BB := nx BB al
  obtain ⟨v3, hwa⟩ : ∃ W, W = v2.alloc (.cells #[.slice ag os.length cg] 26) := ⟨_, rfl⟩
  rw [← hwa] at BB  k1
  have H_v3 := Lib.hid hwa
  clear hwa al b g og
  have SL := Lib.hid (@sid_law os x)
  have I1 := Lib.hid (fun w h => sid_impl ag cg os x w h (by omega))
  have I2 := Lib.hid (fun w h => sid_spec ag cg os x w h (by omega))
  have N1 := Lib.hid (fun w h => cntS_spec ag cg os x w h (by omega))
  have HCN : setB os x = false → cntV os x = -1 := fun h => by unfold cntV; rw [h]; simp
  have HIS : setB os x = false → sidB os x = false := fun h => by unfold sidB; rw [h]; simp
  have SB := Lib.hid (fun k w h => sb_impl ag cg os k w h (by omega))
  have EN := Lib.hid (fun (m : Nat) w h (hg : grpB os = true) (hm : m < 2 ^ gn os) => energy_spec ag cg os m m w h (by omega) hg hm hm)
  obtain ⟨bs, hbs⟩ : ∃ l, l = setB os x := ⟨_, rfl⟩
  obtain ⟨si, hsi⟩ : ∃ l, l = sidB os x := ⟨_, rfl⟩
  obtain ⟨cn, hcn⟩ : ∃ l, l = cntV os x := ⟨_, rfl⟩
  rw [← hbs, ← hsi, ← hcn] at SL
  rw [← hsi] at I1 I2
  rw [← hcn] at N1
  rw [← hbs, ← hcn] at HCN
  rw [← hbs, ← hsi] at HIS
  have HCN := Lib.hid HCN
  have HIS := Lib.hid HIS
  clear hbs hsi hcn
  have q_k1 := k1.cell
  go_wp2_with fail
  clear q_k1
  rw [← H_v3.out]
  refine (I1.out _ k1.own).mono ?_; rintro e v4 ⟨rfl, b⟩
  have BB := nx BB b
  have k1 := k1.next b
  clear b
  have q_k1 := k1.cell
  go_wp2_with fail
  clear q_k1
  refine (I2.out _ k1.own).mono ?_; rintro e v5 ⟨rfl, b⟩
  have BB := nx BB b
  have k1 := k1.next b
  clear b I1 I2
  have q_k1 := k1.cell
  go_wp2_with fail
  clear q_k1
  refine (N1.out _ k1.own).mono ?_; rintro e v6 ⟨rfl, b⟩
  have BB := nx BB b
  have k1 := k1.next b
  clear b N1
  go_upto_if 49 with fail
  go_cut [] from 30 (fun wx => Below w.heap.size w wx)
  case first =>
    cases bs with
    | true =>
      obtain ⟨m, hxm, hm, hg, hc, hp, z1, z2⟩ := SL.out rfl
      subst hxm
      have EN2 := EN.out m
      obtain ⟨p, hpp⟩ : ∃ p : Int, p = (popc m : Int) := ⟨_, rfl⟩
      obtain ⟨E, hE⟩ : ∃ e, e = sqL (tbl os m m) := ⟨_, rfl⟩
      rw [← hpp] at hc z1
      rw [← hE] at z1 EN2
      subst hc
      have hp0 : 0 ≤ cn := by omega
      have hp24 : cn ≤ 24 := by omega
      have hp2 : si = false → 2 ≤ cn := fun h => by have := z2 h; omega
      have hpp1 : 0 ≤ cn * cn := Int.mul_nonneg hp0 hp0
      have hpp2 : cn * cn ≤ 24 * 24 := Int.mul_le_mul hp24 hp24 hp0 (by omega)
      have e1 : 2 * cn * cn = 2 * (cn * cn) := Int.mul_assoc ..
      obtain ⟨P, hP⟩ : ∃ P, P = 2 * cn * cn := ⟨_, rfl⟩
      have hw1 : IntKind.i64.wrap (2 * cn) = 2 * cn := by rw [IntKind.wrap_i64]; omega
      have hw2 : IntKind.i64.wrap (2 * cn * cn) = P := by rw [← hP, IntKind.wrap_i64]; omega
      have hw2' : IntKind.i64.wrap P = P := by rw [IntKind.wrap_i64]; omega
      have hw3 : IntKind.i64.wrap (P - cn) = P - cn := by rw [IntKind.wrap_i64]; omega
      rw [← hP] at z1
      have ENH := Lib.hid (fun w h => EN2 w h hg hm)
      have Z1 := Lib.hid z1
      have SB2 := SB.out cn
      clear hP e1 hpp1 hpp2 hpp hE EN2 z1 z2 SL HCN HIS EN SB
      cases si with
      | true =>
        obtain ⟨y1, y2⟩ := Z1.out rfl
        rw [y1] at SB2
        rw [y2] at ENH
        have SBH := Lib.hid SB2
        clear SB2 y1 y2 Z1 hp2
        have q_k1 := k1.cell
        go_wp2_with fail
        clear q_k1
        refine (SBH.out _ k1.own).mono ?_; rintro e v8 ⟨rfl, b⟩
        have BB := nx BB b
        have k1 := k1.next b
        clear b
        have q_k1 := k1.cell
        go_wp2_with fail
        clear q_k1
        refine (ENH.out _ k1.own).mono ?_; rintro e v9 ⟨rfl, b⟩
        have BB := nx BB b
        have k1 := k1.next b
        clear b SBH ENH
        go_wp2_with fail
        go_meet
        exact BB
      | false =>
        have hq2 := hp2 rfl
        have hq3 : ¬ cn < 2 := by omega
        clear hp2 Z1 SB2
        have q_k1 := k1.cell
        go_wp2_with fail
        clear q_k1
        refine (ENH.out _ k1.own).mono ?_; rintro e v10 ⟨rfl, b⟩
        have BB := nx BB b
        have k1 := k1.next b
        clear b ENH
        by_cases hEP : E = P - cn
        · have hEb : (E == P - cn) = true := by rw [beq_iff_eq]; exact hEP
          clear hEP
          go_wp2_with fail
          go_meet
          exact BB
        · have hEb : (E == P - cn) = false := by rw [beq_eq_false_iff_ne]; exact hEP
          clear hEP
          go_wp2_with fail
          go_meet
          exact BB
    | false =>
      have hcn := HCN.out rfl
      have hsi := HIS.out rfl
      subst hcn
      subst hsi
      clear SL HCN HIS EN SB
      go_wp2_with fail
      go_meet
      exact BB
  case rest =>
  clear k1
  have BB := hcut
  clear hcut SL HCN HIS SB EN
  go_wp2_with fail
  have g := HB.out.below BB (Nat.le_refl _)
  refine (dLargestSD_any a cap n wc g hn).mono ?_; rintro e v11 ⟨hs, ah, ch, rfl, hhs, oh, b⟩
  have BB := nx BB b
  have k1 := KS.start oh
  have al := below_alloc v11 (.cells #[.slice ah hs.length ch] 26)
  have BB := nx BB al
  obtain ⟨v12, hwa⟩ : ∃ W, W = v11.alloc (.cells #[.slice ah hs.length ch] 26) := ⟨_, rfl⟩
  rw [← hwa] at BB  k1
  have H_v12 := Lib.hid hwa
  clear hwa al b g oh
  have LL := Lib.hid (@lsid_law hs)
  have SL := Lib.hid (fun h => @sid_law hs (lvLargestSidon hs : Int) h)
  have L1 := Lib.hid (fun w h => LargestSidon_impl ah ch hs w h (by omega))
  have L2 := Lib.hid (fun w h => LargestSidon_spec ah ch hs w h (by omega))
  obtain ⟨lv, hlv⟩ : ∃ l : Int, l = (lvLargestSidon hs : Int) := ⟨_, rfl⟩
  obtain ⟨bv, hbv⟩ : ∃ l, l = bLargestSidon hs := ⟨_, rfl⟩
  rw [← hlv] at LL L1 L2 SL
  rw [← hbv] at LL L1 L2
  have S1 := Lib.hid (fun w h => sid_impl ah ch hs lv w h (by omega))
  have S2 := Lib.hid (fun w h => cntS_spec ah ch hs lv w h (by omega))
  have S3 := Lib.hid (fun k w h => sb_impl ah ch hs k w h (by omega))
  clear hlv hbv
  have q_k1 := k1.cell
  go_wp2_with fail
  clear q_k1
  rw [← H_v12.out]
  refine (L1.out _ k1.own).mono ?_; rintro e v13 ⟨rfl, b⟩
  have BB := nx BB b
  have k1 := k1.next b
  clear b
  have q_k1 := k1.cell
  go_wp2_with fail
  clear q_k1
  refine (L2.out _ k1.own).mono ?_; rintro e v14 ⟨rfl, b⟩
  have BB := nx BB b
  have k1 := k1.next b
  clear b L1 L2
  go_upto_region 14 with fail
  go_cut [127] from 30 (fun s127 wx => s127 = .bool false ∧ Below w.heap.size w wx)
  case first =>
    cases bv with
    | true =>
      obtain ⟨z1, z2⟩ := LL.out rfl
      obtain ⟨m, -, -, -, hc, hp, y1, -⟩ := SL.out z1
      have y3 := (y1 z2).1
      rw [z2] at S1
      rw [hc] at S2
      have S4 := S3.out (popc m : Int)
      rw [y3] at S4
      have S5 := Lib.hid S4
      clear z1 z2 hc hp y1 y3 S3 S4 LL SL
      have BB := below_drew BB
      have k1 := k1.drew
      refine wp_region_held_drew (S := (fun w' => w'.cell? ⟨v11.heap.size, 0, none⟩ = some (.slice ah hs.length ch))) (by as_aux_lemma => kernel_rfl) k1.cell (fun hHeld => ?_)
      refine wpAnyH_take (i := 0) (v := ?_) rfl (by as_aux_lemma => kernel_rfl) (by as_aux_lemma => kernel_rfl) (by as_aux_lemma => kernel_rfl) (fun _ _ _ h => h) (Or.inl ⟨by first | kernel_rfl | rfl, ?_⟩) (by assumption) ?_
      rotate_left
      · intro w hSw
        (try dsimp only at hSw)
        (try go_split_ands)
        go_simp
        try with_reducible rfl
      (try simp only [Act.put, List.setIfInBounds_toArray, List.set_cons_zero, List.set_cons_succ])
      refine wpAnyH_take (i := 1) (v := ?_) rfl (by as_aux_lemma => kernel_rfl) (by as_aux_lemma => kernel_rfl) (by as_aux_lemma => kernel_rfl) (fun _ _ _ h => h) (Or.inl ⟨by first | kernel_rfl | rfl, ?_⟩) (by assumption) ?_
      rotate_left
      · intro w hSw
        (try dsimp only at hSw)
        (try go_split_ands)
        go_simp
        try with_reducible rfl
      (try simp only [Act.put, List.setIfInBounds_toArray, List.set_cons_zero, List.set_cons_succ])
      refine wpAnyH_take (i := 2) (v := ?_) rfl (by as_aux_lemma => kernel_rfl) (by as_aux_lemma => kernel_rfl) (by as_aux_lemma => kernel_rfl) (fun _ _ _ h => h) (Or.inl ⟨by first | kernel_rfl | rfl, ?_⟩) (by assumption) ?_
      rotate_left
      · intro w hSw
        (try dsimp only at hSw)
        (try go_split_ands)
        go_simp
        try with_reducible rfl
      (try simp only [Act.put, List.setIfInBounds_toArray, List.set_cons_zero, List.set_cons_succ])
      refine wpAnyH_take (i := 3) (v := ?_) rfl (by as_aux_lemma => kernel_rfl) (by as_aux_lemma => kernel_rfl) (by as_aux_lemma => kernel_rfl) (fun _ _ _ h => h) (Or.inl ⟨by first | kernel_rfl | rfl, ?_⟩) (by assumption) ?_
      rotate_left
      · intro w hSw
        (try dsimp only at hSw)
        (try go_split_ands)
        go_simp
        try with_reducible rfl
      (try simp only [Act.put, List.setIfInBounds_toArray, List.set_cons_zero, List.set_cons_succ])
      refine wpAnyH_take (i := 4) (v := ?_) rfl (by as_aux_lemma => kernel_rfl) (by as_aux_lemma => kernel_rfl) (by as_aux_lemma => kernel_rfl) (fun _ _ _ h => h) (Or.inl ⟨by first | kernel_rfl | rfl, ?_⟩) (by assumption) ?_
      rotate_left
      · intro w hSw
        (try dsimp only at hSw)
        (try go_split_ands)
        go_simp
        try with_reducible rfl
      (try simp only [Act.put, List.setIfInBounds_toArray, List.set_cons_zero, List.set_cons_succ])
      refine wpAnyH_take (i := 5) (v := ?_) rfl (by as_aux_lemma => kernel_rfl) (by as_aux_lemma => kernel_rfl) (by as_aux_lemma => kernel_rfl) (fun _ _ _ h => h) (Or.inl ⟨by first | kernel_rfl | rfl, ?_⟩) (by assumption) ?_
      rotate_left
      · intro w hSw
        (try dsimp only at hSw)
        (try go_split_ands)
        go_simp
        try with_reducible rfl
      (try simp only [Act.put, List.setIfInBounds_toArray, List.set_cons_zero, List.set_cons_succ])
      refine wpAnyH_take (i := 6) (v := ?_) rfl (by as_aux_lemma => kernel_rfl) (by as_aux_lemma => kernel_rfl) (by as_aux_lemma => kernel_rfl) (fun _ _ _ h => h) (Or.inl ⟨by first | kernel_rfl | rfl, ?_⟩) (by assumption) ?_
      rotate_left
      · intro w hSw
        (try dsimp only at hSw)
        (try go_split_ands)
        go_simp
        try with_reducible rfl
      (try simp only [Act.put, List.setIfInBounds_toArray, List.set_cons_zero, List.set_cons_succ])
      refine wpAnyH_take (i := 7) (v := ?_) rfl (by as_aux_lemma => kernel_rfl) (by as_aux_lemma => kernel_rfl) (by as_aux_lemma => kernel_rfl) (fun _ _ _ h => h) (Or.inl ⟨by first | kernel_rfl | rfl, ?_⟩) (by assumption) ?_
      rotate_left
      · intro w hSw
        (try dsimp only at hSw)
        (try go_split_ands)
        go_simp
        try with_reducible rfl
      (try simp only [Act.put, List.setIfInBounds_toArray, List.set_cons_zero, List.set_cons_succ])
      refine wpAnyH_take (i := 8) (v := ?_) rfl (by as_aux_lemma => kernel_rfl) (by as_aux_lemma => kernel_rfl) (by as_aux_lemma => kernel_rfl) (fun _ _ _ h => h) (Or.inl ⟨by first | kernel_rfl | rfl, ?_⟩) (by assumption) ?_
      rotate_left
      · intro w hSw
        (try dsimp only at hSw)
        (try go_split_ands)
        go_simp
        try with_reducible rfl
      (try simp only [Act.put, List.setIfInBounds_toArray, List.set_cons_zero, List.set_cons_succ])
      refine wpAnyH_take (i := 9) (v := ?_) rfl (by as_aux_lemma => kernel_rfl) (by as_aux_lemma => kernel_rfl) (by as_aux_lemma => kernel_rfl) (fun _ _ _ h => h) (Or.inl ⟨by first | kernel_rfl | rfl, ?_⟩) (by assumption) ?_
      rotate_left
      · intro w hSw
        (try dsimp only at hSw)
        (try go_split_ands)
        go_simp
        try with_reducible rfl
      (try simp only [Act.put, List.setIfInBounds_toArray, List.set_cons_zero, List.set_cons_succ])
      refine wpAnyH_take (i := 10) (v := ?_) rfl (by as_aux_lemma => kernel_rfl) (by as_aux_lemma => kernel_rfl) (by as_aux_lemma => kernel_rfl) (fun _ _ _ h => h) (Or.inl ⟨by first | kernel_rfl | rfl, ?_⟩) (by assumption) ?_
      rotate_left
      · intro w hSw
        (try dsimp only at hSw)
        (try go_split_ands)
        go_simp
        try with_reducible rfl
      (try simp only [Act.put, List.setIfInBounds_toArray, List.set_cons_zero, List.set_cons_succ])
      refine wpAnyH_take (i := 11) (v := ?_) rfl (by as_aux_lemma => kernel_rfl) (by as_aux_lemma => kernel_rfl) (by as_aux_lemma => kernel_rfl) (fun _ _ _ h => h) (Or.inl ⟨by first | kernel_rfl | rfl, ?_⟩) (by assumption) ?_
      rotate_left
      · intro w hSw
        (try dsimp only at hSw)
        (try go_split_ands)
        go_simp
        try with_reducible rfl
      (try simp only [Act.put, List.setIfInBounds_toArray, List.set_cons_zero, List.set_cons_succ])
      refine wpAnyH_take (i := 12) (v := ?_) rfl (by as_aux_lemma => kernel_rfl) (by as_aux_lemma => kernel_rfl) (by as_aux_lemma => kernel_rfl) (fun _ _ _ h => h) (Or.inl ⟨by first | kernel_rfl | rfl, ?_⟩) (by assumption) ?_
      rotate_left
      · intro w hSw
        (try dsimp only at hSw)
        (try go_split_ands)
        go_simp
        try with_reducible rfl
      (try simp only [Act.put, List.setIfInBounds_toArray, List.set_cons_zero, List.set_cons_succ])
      refine wpAnyH_ready (rs := [13]) (by as_aux_lemma => kernel_rfl) (by simp) ?_
      refine AllReadyH.cons rfl (fun K hK => ?_) AllReadyH.nil
      go_simp
      go_at_call 34
      refine (S1.out _ k1.own).mono ?_; rintro e u ⟨rfl, b⟩
      have BB := nx BB b
      have k1 := k1.next b
      clear b
      refine hK.out _ _ k1.cell (fun hHeld => ?_)
      clear hK K
      (try simp only [Act.put, List.setIfInBounds_toArray, List.set_cons_zero, List.set_cons_succ])
      refine wpAnyH_take (i := 14) (v := ?_) rfl (by as_aux_lemma => kernel_rfl) (by as_aux_lemma => kernel_rfl) (by as_aux_lemma => kernel_rfl) (fun _ _ _ h => h) (Or.inl ⟨by first | kernel_rfl | rfl, ?_⟩) (by assumption) ?_
      rotate_left
      · intro w hSw
        (try dsimp only at hSw)
        (try go_split_ands)
        go_simp
        try with_reducible rfl
      (try simp only [Act.put, List.setIfInBounds_toArray, List.set_cons_zero, List.set_cons_succ])
      refine wpAnyH_take (i := 15) (v := ?_) rfl (by as_aux_lemma => kernel_rfl) (by as_aux_lemma => kernel_rfl) (by as_aux_lemma => kernel_rfl) (fun _ _ _ h => h) (Or.inl ⟨by first | kernel_rfl | rfl, ?_⟩) (by assumption) ?_
      rotate_left
      · intro w hSw
        (try dsimp only at hSw)
        (try go_split_ands)
        go_simp
        try with_reducible rfl
      (try simp only [Act.put, List.setIfInBounds_toArray, List.set_cons_zero, List.set_cons_succ])
      refine wpAnyH_take (i := 16) (v := ?_) rfl (by as_aux_lemma => kernel_rfl) (by as_aux_lemma => kernel_rfl) (by as_aux_lemma => kernel_rfl) (fun _ _ _ h => h) (Or.inl ⟨by first | kernel_rfl | rfl, ?_⟩) (by assumption) ?_
      rotate_left
      · intro w hSw
        (try dsimp only at hSw)
        (try go_split_ands)
        go_simp
        try with_reducible rfl
      (try simp only [Act.put, List.setIfInBounds_toArray, List.set_cons_zero, List.set_cons_succ])
      refine wpAnyH_take (i := 17) (v := ?_) rfl (by as_aux_lemma => kernel_rfl) (by as_aux_lemma => kernel_rfl) (by as_aux_lemma => kernel_rfl) (fun _ _ _ h => h) (Or.inl ⟨by first | kernel_rfl | rfl, ?_⟩) (by assumption) ?_
      rotate_left
      · intro w hSw
        (try dsimp only at hSw)
        (try go_split_ands)
        go_simp
        try with_reducible rfl
      (try simp only [Act.put, List.setIfInBounds_toArray, List.set_cons_zero, List.set_cons_succ])
      refine wpAnyH_take (i := 18) (v := ?_) rfl (by as_aux_lemma => kernel_rfl) (by as_aux_lemma => kernel_rfl) (by as_aux_lemma => kernel_rfl) (fun _ _ _ h => h) (Or.inl ⟨by first | kernel_rfl | rfl, ?_⟩) (by assumption) ?_
      rotate_left
      · intro w hSw
        (try dsimp only at hSw)
        (try go_split_ands)
        go_simp
        try with_reducible rfl
      (try simp only [Act.put, List.setIfInBounds_toArray, List.set_cons_zero, List.set_cons_succ])
      refine wpAnyH_ready (rs := [19]) (by as_aux_lemma => kernel_rfl) (by simp) ?_
      refine AllReadyH.cons rfl (fun K hK => ?_) AllReadyH.nil
      go_simp
      go_at_call 16
      refine (S2.out _ k1.own).mono ?_; rintro e u ⟨rfl, b⟩
      have BB := nx BB b
      have k1 := k1.next b
      clear b
      refine hK.out _ _ k1.cell (fun hHeld => ?_)
      clear hK K
      (try simp only [Act.put, List.setIfInBounds_toArray, List.set_cons_zero, List.set_cons_succ])
      refine wpAnyH_ready (rs := [20]) (by as_aux_lemma => kernel_rfl) (by simp) ?_
      refine AllReadyH.cons rfl (fun K hK => ?_) AllReadyH.nil
      go_simp
      go_at_call 36
      refine (S5.out _ k1.own).mono ?_; rintro e u ⟨rfl, b⟩
      have BB := nx BB b
      have k1 := k1.next b
      clear b
      refine hK.out _ _ k1.cell (fun hHeld => ?_)
      clear hK K
      (try simp only [Act.put, List.setIfInBounds_toArray, List.set_cons_zero, List.set_cons_succ])
      refine wpAnyH_take (i := 21) (v := ?_) rfl (by as_aux_lemma => kernel_rfl) (by as_aux_lemma => kernel_rfl) (by as_aux_lemma => kernel_rfl) (fun _ _ _ h => h) (Or.inl ⟨by first | kernel_rfl | rfl, ?_⟩) (by assumption) ?_
      rotate_left
      · intro w hSw
        (try dsimp only at hSw)
        (try go_split_ands)
        go_simp
        try with_reducible rfl
      (try simp only [Act.put, List.setIfInBounds_toArray, List.set_cons_zero, List.set_cons_succ])
      refine wpAnyH_take (i := 22) (v := ?_) rfl (by as_aux_lemma => kernel_rfl) (by as_aux_lemma => kernel_rfl) (by as_aux_lemma => kernel_rfl) (fun _ _ _ h => h) (Or.inl ⟨by first | kernel_rfl | rfl, ?_⟩) (by assumption) ?_
      rotate_left
      · intro w hSw
        (try dsimp only at hSw)
        (try go_split_ands)
        go_simp
        try with_reducible rfl
      (try simp only [Act.put, List.setIfInBounds_toArray, List.set_cons_zero, List.set_cons_succ])
      refine wpAnyH_take (i := 23) (v := ?_) rfl (by as_aux_lemma => kernel_rfl) (by as_aux_lemma => kernel_rfl) (by as_aux_lemma => kernel_rfl) (fun _ _ _ h => h) (Or.inl ⟨by first | kernel_rfl | rfl, ?_⟩) (by assumption) ?_
      rotate_left
      · intro w hSw
        (try dsimp only at hSw)
        (try go_split_ands)
        go_simp
        try with_reducible rfl
      (try simp only [Act.put, List.setIfInBounds_toArray, List.set_cons_zero, List.set_cons_succ])
      refine wpAnyH_take (i := 24) (v := ?_) rfl (by as_aux_lemma => kernel_rfl) (by as_aux_lemma => kernel_rfl) (by as_aux_lemma => kernel_rfl) (fun _ _ _ h => h) (Or.inl ⟨by first | kernel_rfl | rfl, ?_⟩) (by assumption) ?_
      rotate_left
      · intro w hSw
        (try dsimp only at hSw)
        (try go_split_ands)
        go_simp
        try with_reducible rfl
      (try simp only [Act.put, List.setIfInBounds_toArray, List.set_cons_zero, List.set_cons_succ])
      refine wpAnyH_done (by as_aux_lemma => kernel_rfl) ?_ _
      (try simp only [List.getElem_toArray, List.getElem_cons_succ, List.getElem_cons_zero, Act.put, List.setIfInBounds_toArray, List.set_cons_zero, List.set_cons_succ])
      go_wp2_with fail
      go_meet
      exact ⟨rfl, BB⟩
    | false =>
      clear LL SL S1 S2 S3
      refine wp_region_quiet_lit (by kernel_rfl) (by kernel_rfl) ?_
      repeat (any_goals (first | go_big_quiet_step (fail) | quiet_step (fail)))
      refine wpQuiet_nil ?_
      intro _ hw'
      obtain ⟨nq, hw''⟩ := hw'
      subst hw''
      have BB := below_drewN BB nq
      go_wp2_with fail
      go_meet
      exact ⟨rfl, BB⟩
  case rest =>
  clear k1
  obtain ⟨rfl, BB⟩ := hcut
  clear LL SL S1 S2 S3
  go_wp2_with fail
  have g := HB.out.below BB (Nat.le_refl _)
  refine (dFindDS_any a cap n wc g hn).mono ?_; rintro e v16 ⟨ds, ad, cd, m, rfl, hds, hm, od, b⟩
  have BB := nx BB b
  have k1 := KS.start od
  have al := below_alloc v16 (.cells #[.slice ad ds.length cd] 26)
  have BB := nx BB al
  obtain ⟨v17, hwa⟩ : ∃ W, W = v16.alloc (.cells #[.slice ad ds.length cd] 26) := ⟨_, rfl⟩
  rw [← hwa] at BB  k1
  have H_v17 := Lib.hid hwa
  clear hwa al b g od
  have FL := Lib.hid (@fds_law ds m)
  have F1 := Lib.hid (fun w h => fds_impl ad cd ds m w h (by omega))
  have F2 := Lib.hid (fun w h => fds_spec ad cd ds m w h (by omega))
  obtain ⟨fv, hfv⟩ : ∃ l : Int, l = ((fdF ds m).getD 0 : Int) := ⟨_, rfl⟩
  obtain ⟨fb, hfb⟩ : ∃ l, l = (fdF ds m).isSome := ⟨_, rfl⟩
  rw [← hfv, ← hfb] at FL F1 F2
  have D1 := Lib.hid (fun w h => ids_impl ad cd ds fv w h (by omega))
  have D2 := Lib.hid (fun w h => cntS_spec ad cd ds fv w h (by omega))
  have D3 := Lib.hid (fun w h => orderOf_spec ad cd ds w h (by omega))
  have hob := ordV_bd ds
  clear hfv hfb
  have q_k1 := k1.cell
  go_wp2_with fail
  clear q_k1
  rw [← H_v17.out]
  refine (F1.out _ k1.own).mono ?_; rintro e v18 ⟨rfl, b⟩
  have BB := nx BB b
  have k1 := k1.next b
  clear b
  have q_k1 := k1.cell
  go_wp2_with fail
  clear q_k1
  refine (F2.out _ k1.own).mono ?_; rintro e v19 ⟨rfl, b⟩
  have BB := nx BB b
  have k1 := k1.next b
  clear b F1 F2
  go_upto_if 153 with fail
  go_cut [] from 30 (fun wx => Below w.heap.size w wx)
  case first =>
    cases fb with
    | true =>
      obtain ⟨z1, z2, z3, z4, z5⟩ := FL.out rfl
      rw [z1] at D1
      rw [z2] at D2
      obtain ⟨K, hK⟩ : ∃ k, k = dsV ds fv := ⟨_, rfl⟩
      obtain ⟨O, hO⟩ : ∃ k, k = ordV ds := ⟨_, rfl⟩
      rw [← hK] at D1 z3
      rw [← hO] at D3 z3 hob
      have e1 : m * (m - 1) = m * m - m := by rw [Int.mul_sub, Int.mul_one]
      have hm1 : m * m ≤ 6 * 6 := Int.mul_le_mul z5 z5 (by omega) (by omega)
      have hm2 : 0 ≤ m * m := Int.mul_nonneg (by omega) (by omega)
      obtain ⟨X, hX⟩ : ∃ k, k = m * (m - 1) := ⟨_, rfl⟩
      rw [← hX] at z3 e1
      have hw1 : IntKind.i64.wrap (O - 1) = O - 1 := by rw [IntKind.wrap_i64]; omega
      have hw2 : IntKind.i64.wrap (m - 1) = m - 1 := by rw [IntKind.wrap_i64]; omega
      have hw3 : IntKind.i64.wrap (K * (O - 1)) = X := by rw [z3, IntKind.wrap_i64]; omega
      have hw4 : IntKind.i64.wrap (m * (m - 1)) = X := by rw [← hX, IntKind.wrap_i64]; omega
      clear z1 z2 z3 z4 z5 hK hO e1 hm1 hm2 hX hob FL
      have q_k1 := k1.cell
      go_wp2_with fail
      clear q_k1
      refine (D1.out _ k1.own).mono ?_; rintro e v21 ⟨rfl, b⟩
      have BB := nx BB b
      have k1 := k1.next b
      clear b
      have q_k1 := k1.cell
      go_wp2_with fail
      clear q_k1
      refine (D2.out _ k1.own).mono ?_; rintro e v22 ⟨rfl, b⟩
      have BB := nx BB b
      have k1 := k1.next b
      clear b
      have q_k1 := k1.cell
      go_wp2_with fail
      clear q_k1
      refine (D3.out _ k1.own).mono ?_; rintro e v23 ⟨rfl, b⟩
      have BB := nx BB b
      have k1 := k1.next b
      clear b
      go_wp2_with fail
      go_meet
      exact BB
    | false =>
      clear FL D1 D2 D3 hob
      go_wp2_with fail
      go_meet
      exact BB
  case rest =>
  clear k1
  have BB := hcut
  clear hcut FL D1 D2 D3 hob
  go_wp2_with fail
  have g := HB.out.below BB (Nat.le_refl _)
  refine (dIsDS_any a cap n wc g hn).mono ?_; rintro e v24 ⟨es, ae, ce, y, rfl, hes, hy, oe, b⟩
  have BB := nx BB b
  have ke := KS.start oe
  have al := below_alloc v24 (.cells #[.slice ae es.length ce] 26)
  have BB := nx BB al
  obtain ⟨v25, hwa⟩ : ∃ W, W = v24.alloc (.cells #[.slice ae es.length ce] 26) := ⟨_, rfl⟩
  rw [← hwa] at BB  ke
  have H_v25 := Lib.hid hwa
  clear hwa al b g oe
  have E1 := Lib.hid (fun w h => ids_impl ae ce es y w h (by omega))
  have E2 := Lib.hid (fun w h => ids_spec ae ce es y w h (by omega))
  obtain ⟨ev, hev⟩ : ∃ l, l = dsV es y := ⟨_, rfl⟩
  obtain ⟨eb, heb⟩ : ∃ l, l = dsB es y := ⟨_, rfl⟩
  rw [← hev, ← heb] at E1 E2
  clear hev heb
  have q_ke := ke.cell
  go_wp2_with fail
  clear q_ke
  rw [← H_v25.out]
  refine (E1.out _ ke.own).mono ?_; rintro e v26 ⟨rfl, b⟩
  have BB := nx BB b
  have ke := ke.next b
  clear b
  have q_ke := ke.cell
  go_wp2_with fail
  clear q_ke
  refine (E2.out _ ke.own).mono ?_; rintro e v27 ⟨rfl, b⟩
  have BB := nx BB b
  have ke := ke.next b
  clear b E1 E2
  clear ke
  go_wp2_with fail
  have g := HB.out.below BB (Nat.le_refl _)
  refine (dCountSD_any a cap n v27 g hn).mono ?_; rintro e v28 ⟨rs, ar, cr, s, rfl, hrs, hs2, orr, b⟩
  have BB := nx BB b
  have kr := KS.start orr
  have al := below_alloc v28 (.cells #[.slice ar rs.length cr] 26)
  have BB := nx BB al
  obtain ⟨v29, hwa⟩ : ∃ W, W = v28.alloc (.cells #[.slice ar rs.length cr] 26) := ⟨_, rfl⟩
  rw [← hwa] at BB  kr
  have H_v29 := Lib.hid hwa
  clear hwa al b g orr
  have R1 := Lib.hid (fun w h => csi_impl ar cr rs s w h (by omega))
  have R2 := Lib.hid (fun w h => csi_spec ar cr rs s w h (by omega))
  obtain ⟨rv, hrv⟩ : ∃ l, l = csV rs s := ⟨_, rfl⟩
  rw [← hrv] at R1 R2
  clear hrv
  have q_kr := kr.cell
  go_wp2_with fail
  clear q_kr
  rw [← H_v29.out]
  have g := HB.out.below BB (Nat.le_refl _)
  refine (dSidonBound_any a cap n v29 g hn).mono ?_; rintro e v30 ⟨ts, at_, ct, z, rfl, hts, hz, ot, b⟩
  have BB := nx BB b
  have kr := kr.next b
  have kt := KS.start ot
  have al := below_alloc v30 (.cells #[.slice at_ ts.length ct] 26)
  have BB := nx BB al
  have kr := kr.next al
  obtain ⟨v31, hwa⟩ : ∃ W, W = v30.alloc (.cells #[.slice at_ ts.length ct] 26) := ⟨_, rfl⟩
  rw [← hwa] at BB kr kt
  have H_v31 := Lib.hid hwa
  clear hwa al b g ot
  have T1 := Lib.hid (fun w h => sb_impl at_ ct ts z w h (by omega))
  have T2 := Lib.hid (fun w h => sb_spec at_ ct ts z w h (by omega))
  obtain ⟨tv, htv⟩ : ∃ l, l = sbB ts z := ⟨_, rfl⟩
  rw [← htv] at T1 T2
  clear htv
  have q_kr := kr.cell
  have q_kt := kt.cell
  go_wp2_with fail
  clear q_kr q_kt
  rw [← H_v31.out]
  have BB := below_drew BB
  have kr := kr.drew
  have kt := kt.drew
  refine wp_region_held_drew (S := (fun w' => w'.cell? ⟨v28.heap.size, 0, none⟩ = some (.slice ar rs.length cr) ∧ w'.cell? ⟨v30.heap.size, 0, none⟩ = some (.slice at_ ts.length ct))) (by as_aux_lemma => kernel_rfl) ⟨kr.cell, kt.cell⟩ (fun hHeld => ?_)
  refine wpAnyH_take (i := 0) (v := ?_) rfl (by as_aux_lemma => kernel_rfl) (by as_aux_lemma => kernel_rfl) (by as_aux_lemma => kernel_rfl) (fun _ _ _ h => h) (Or.inl ⟨by first | kernel_rfl | rfl, ?_⟩) (by assumption) ?_
  rotate_left
  · intro w hSw
    (try dsimp only at hSw)
    (try go_split_ands)
    go_simp
    try with_reducible rfl
  (try simp only [Act.put, List.setIfInBounds_toArray, List.set_cons_zero, List.set_cons_succ])
  refine wpAnyH_take (i := 1) (v := ?_) rfl (by as_aux_lemma => kernel_rfl) (by as_aux_lemma => kernel_rfl) (by as_aux_lemma => kernel_rfl) (fun _ _ _ h => h) (Or.inl ⟨by first | kernel_rfl | rfl, ?_⟩) (by assumption) ?_
  rotate_left
  · intro w hSw
    (try dsimp only at hSw)
    (try go_split_ands)
    go_simp
    try with_reducible rfl
  (try simp only [Act.put, List.setIfInBounds_toArray, List.set_cons_zero, List.set_cons_succ])
  refine wpAnyH_take (i := 2) (v := ?_) rfl (by as_aux_lemma => kernel_rfl) (by as_aux_lemma => kernel_rfl) (by as_aux_lemma => kernel_rfl) (fun _ _ _ h => h) (Or.inl ⟨by first | kernel_rfl | rfl, ?_⟩) (by assumption) ?_
  rotate_left
  · intro w hSw
    (try dsimp only at hSw)
    (try go_split_ands)
    go_simp
    try with_reducible rfl
  (try simp only [Act.put, List.setIfInBounds_toArray, List.set_cons_zero, List.set_cons_succ])
  refine wpAnyH_take (i := 3) (v := ?_) rfl (by as_aux_lemma => kernel_rfl) (by as_aux_lemma => kernel_rfl) (by as_aux_lemma => kernel_rfl) (fun _ _ _ h => h) (Or.inl ⟨by first | kernel_rfl | rfl, ?_⟩) (by assumption) ?_
  rotate_left
  · intro w hSw
    (try dsimp only at hSw)
    (try go_split_ands)
    go_simp
    try with_reducible rfl
  (try simp only [Act.put, List.setIfInBounds_toArray, List.set_cons_zero, List.set_cons_succ])
  refine wpAnyH_take (i := 4) (v := ?_) rfl (by as_aux_lemma => kernel_rfl) (by as_aux_lemma => kernel_rfl) (by as_aux_lemma => kernel_rfl) (fun _ _ _ h => h) (Or.inl ⟨by first | kernel_rfl | rfl, ?_⟩) (by assumption) ?_
  rotate_left
  · intro w hSw
    (try dsimp only at hSw)
    (try go_split_ands)
    go_simp
    try with_reducible rfl
  (try simp only [Act.put, List.setIfInBounds_toArray, List.set_cons_zero, List.set_cons_succ])
  refine wpAnyH_take (i := 5) (v := ?_) rfl (by as_aux_lemma => kernel_rfl) (by as_aux_lemma => kernel_rfl) (by as_aux_lemma => kernel_rfl) (fun _ _ _ h => h) (Or.inl ⟨by first | kernel_rfl | rfl, ?_⟩) (by assumption) ?_
  rotate_left
  · intro w hSw
    (try dsimp only at hSw)
    (try go_split_ands)
    go_simp
    try with_reducible rfl
  (try simp only [Act.put, List.setIfInBounds_toArray, List.set_cons_zero, List.set_cons_succ])
  refine wpAnyH_take (i := 6) (v := ?_) rfl (by as_aux_lemma => kernel_rfl) (by as_aux_lemma => kernel_rfl) (by as_aux_lemma => kernel_rfl) (fun _ _ _ h => h) (Or.inl ⟨by first | kernel_rfl | rfl, ?_⟩) (by assumption) ?_
  rotate_left
  · intro w hSw
    (try dsimp only at hSw)
    (try go_split_ands)
    go_simp
    try with_reducible rfl
  (try simp only [Act.put, List.setIfInBounds_toArray, List.set_cons_zero, List.set_cons_succ])
  refine wpAnyH_take (i := 7) (v := ?_) rfl (by as_aux_lemma => kernel_rfl) (by as_aux_lemma => kernel_rfl) (by as_aux_lemma => kernel_rfl) (fun _ _ _ h => h) (Or.inl ⟨by first | kernel_rfl | rfl, ?_⟩) (by assumption) ?_
  rotate_left
  · intro w hSw
    (try dsimp only at hSw)
    (try go_split_ands)
    go_simp
    try with_reducible rfl
  (try simp only [Act.put, List.setIfInBounds_toArray, List.set_cons_zero, List.set_cons_succ])
  refine wpAnyH_take (i := 8) (v := ?_) rfl (by as_aux_lemma => kernel_rfl) (by as_aux_lemma => kernel_rfl) (by as_aux_lemma => kernel_rfl) (fun _ _ _ h => h) (Or.inl ⟨by first | kernel_rfl | rfl, ?_⟩) (by assumption) ?_
  rotate_left
  · intro w hSw
    (try dsimp only at hSw)
    (try go_split_ands)
    go_simp
    try with_reducible rfl
  (try simp only [Act.put, List.setIfInBounds_toArray, List.set_cons_zero, List.set_cons_succ])
  refine wpAnyH_take (i := 9) (v := ?_) rfl (by as_aux_lemma => kernel_rfl) (by as_aux_lemma => kernel_rfl) (by as_aux_lemma => kernel_rfl) (fun _ _ _ h => h) (Or.inl ⟨by first | kernel_rfl | rfl, ?_⟩) (by assumption) ?_
  rotate_left
  · intro w hSw
    (try dsimp only at hSw)
    (try go_split_ands)
    go_simp
    try with_reducible rfl
  (try simp only [Act.put, List.setIfInBounds_toArray, List.set_cons_zero, List.set_cons_succ])
  refine wpAnyH_take (i := 10) (v := ?_) rfl (by as_aux_lemma => kernel_rfl) (by as_aux_lemma => kernel_rfl) (by as_aux_lemma => kernel_rfl) (fun _ _ _ h => h) (Or.inl ⟨by first | kernel_rfl | rfl, ?_⟩) (by assumption) ?_
  rotate_left
  · intro w hSw
    (try dsimp only at hSw)
    (try go_split_ands)
    go_simp
    try with_reducible rfl
  (try simp only [Act.put, List.setIfInBounds_toArray, List.set_cons_zero, List.set_cons_succ])
  refine wpAnyH_take (i := 12) (v := ?_) rfl (by as_aux_lemma => kernel_rfl) (by as_aux_lemma => kernel_rfl) (by as_aux_lemma => kernel_rfl) (fun _ _ _ h => h) (Or.inl ⟨by first | kernel_rfl | rfl, ?_⟩) (by assumption) ?_
  rotate_left
  · intro w hSw
    (try dsimp only at hSw)
    (try go_split_ands)
    go_simp
    try with_reducible rfl
  (try simp only [Act.put, List.setIfInBounds_toArray, List.set_cons_zero, List.set_cons_succ])
  refine wpAnyH_take (i := 13) (v := ?_) rfl (by as_aux_lemma => kernel_rfl) (by as_aux_lemma => kernel_rfl) (by as_aux_lemma => kernel_rfl) (fun _ _ _ h => h) (Or.inl ⟨by first | kernel_rfl | rfl, ?_⟩) (by assumption) ?_
  rotate_left
  · intro w hSw
    (try dsimp only at hSw)
    (try go_split_ands)
    go_simp
    try with_reducible rfl
  (try simp only [Act.put, List.setIfInBounds_toArray, List.set_cons_zero, List.set_cons_succ])
  refine wpAnyH_ready (rs := [11]) (by as_aux_lemma => kernel_rfl) (by simp) ?_
  refine AllReadyH.cons rfl (fun K hK => ?_) AllReadyH.nil
  go_simp
  go_at_call 49
  refine (R1.out _ kr.own).mono ?_; rintro e u ⟨rfl, b⟩
  have BB := nx BB b
  have kr := kr.next b
  have kt := kt.next b
  clear b
  refine hK.out _ _ ⟨kr.cell, kt.cell⟩ (fun hHeld => ?_)
  clear hK K
  (try simp only [Act.put, List.setIfInBounds_toArray, List.set_cons_zero, List.set_cons_succ])
  refine wpAnyH_ready (rs := [14]) (by as_aux_lemma => kernel_rfl) (by simp) ?_
  refine AllReadyH.cons rfl (fun K hK => ?_) AllReadyH.nil
  go_simp
  go_at_call 50
  refine (R2.out _ kr.own).mono ?_; rintro e u ⟨rfl, b⟩
  have BB := nx BB b
  have kr := kr.next b
  have kt := kt.next b
  clear b
  refine hK.out _ _ ⟨kr.cell, kt.cell⟩ (fun hHeld => ?_)
  clear hK K
  (try simp only [Act.put, List.setIfInBounds_toArray, List.set_cons_zero, List.set_cons_succ])
  refine wpAnyH_take (i := 15) (v := ?_) rfl (by as_aux_lemma => kernel_rfl) (by as_aux_lemma => kernel_rfl) (by as_aux_lemma => kernel_rfl) (fun _ _ _ h => h) (Or.inl ⟨by first | kernel_rfl | rfl, ?_⟩) (by assumption) ?_
  rotate_left
  · intro w hSw
    (try dsimp only at hSw)
    (try go_split_ands)
    go_simp
    try with_reducible rfl
  (try simp only [Act.put, List.setIfInBounds_toArray, List.set_cons_zero, List.set_cons_succ])
  refine wpAnyH_take (i := 16) (v := ?_) rfl (by as_aux_lemma => kernel_rfl) (by as_aux_lemma => kernel_rfl) (by as_aux_lemma => kernel_rfl) (fun _ _ _ h => h) (Or.inl ⟨by first | kernel_rfl | rfl, ?_⟩) (by assumption) ?_
  rotate_left
  · intro w hSw
    (try dsimp only at hSw)
    (try go_split_ands)
    go_simp
    try with_reducible rfl
  (try simp only [Act.put, List.setIfInBounds_toArray, List.set_cons_zero, List.set_cons_succ])
  refine wpAnyH_take (i := 17) (v := ?_) rfl (by as_aux_lemma => kernel_rfl) (by as_aux_lemma => kernel_rfl) (by as_aux_lemma => kernel_rfl) (fun _ _ _ h => h) (Or.inl ⟨by first | kernel_rfl | rfl, ?_⟩) (by assumption) ?_
  rotate_left
  · intro w hSw
    (try dsimp only at hSw)
    (try go_split_ands)
    go_simp
    try with_reducible rfl
  (try simp only [Act.put, List.setIfInBounds_toArray, List.set_cons_zero, List.set_cons_succ])
  refine wpAnyH_take (i := 18) (v := ?_) rfl (by as_aux_lemma => kernel_rfl) (by as_aux_lemma => kernel_rfl) (by as_aux_lemma => kernel_rfl) (fun _ _ _ h => h) (Or.inl ⟨by first | kernel_rfl | rfl, ?_⟩) (by assumption) ?_
  rotate_left
  · intro w hSw
    (try dsimp only at hSw)
    (try go_split_ands)
    go_simp
    try with_reducible rfl
  (try simp only [Act.put, List.setIfInBounds_toArray, List.set_cons_zero, List.set_cons_succ])
  refine wpAnyH_take (i := 19) (v := ?_) rfl (by as_aux_lemma => kernel_rfl) (by as_aux_lemma => kernel_rfl) (by as_aux_lemma => kernel_rfl) (fun _ _ _ h => h) (Or.inl ⟨by first | kernel_rfl | rfl, ?_⟩) (by assumption) ?_
  rotate_left
  · intro w hSw
    (try dsimp only at hSw)
    (try go_split_ands)
    go_simp
    try with_reducible rfl
  (try simp only [Act.put, List.setIfInBounds_toArray, List.set_cons_zero, List.set_cons_succ])
  refine wpAnyH_take (i := 21) (v := ?_) rfl (by as_aux_lemma => kernel_rfl) (by as_aux_lemma => kernel_rfl) (by as_aux_lemma => kernel_rfl) (fun _ _ _ h => h) (Or.inl ⟨by first | kernel_rfl | rfl, ?_⟩) (by assumption) ?_
  rotate_left
  · intro w hSw
    (try dsimp only at hSw)
    (try go_split_ands)
    go_simp
    try with_reducible rfl
  (try simp only [Act.put, List.setIfInBounds_toArray, List.set_cons_zero, List.set_cons_succ])
  refine wpAnyH_take (i := 22) (v := ?_) rfl (by as_aux_lemma => kernel_rfl) (by as_aux_lemma => kernel_rfl) (by as_aux_lemma => kernel_rfl) (fun _ _ _ h => h) (Or.inl ⟨by first | kernel_rfl | rfl, ?_⟩) (by assumption) ?_
  rotate_left
  · intro w hSw
    (try dsimp only at hSw)
    (try go_split_ands)
    go_simp
    try with_reducible rfl
  (try simp only [Act.put, List.setIfInBounds_toArray, List.set_cons_zero, List.set_cons_succ])
  refine wpAnyH_ready (rs := [20]) (by as_aux_lemma => kernel_rfl) (by simp) ?_
  refine AllReadyH.cons rfl (fun K hK => ?_) AllReadyH.nil
  go_simp
  go_at_call 36
  refine (T1.out _ kt.own).mono ?_; rintro e u ⟨rfl, b⟩
  have BB := nx BB b
  have kr := kr.next b
  have kt := kt.next b
  clear b
  refine hK.out _ _ ⟨kr.cell, kt.cell⟩ (fun hHeld => ?_)
  clear hK K
  (try simp only [Act.put, List.setIfInBounds_toArray, List.set_cons_zero, List.set_cons_succ])
  refine wpAnyH_ready (rs := [23]) (by as_aux_lemma => kernel_rfl) (by simp) ?_
  refine AllReadyH.cons rfl (fun K hK => ?_) AllReadyH.nil
  go_simp
  go_at_call 51
  refine (T2.out _ kt.own).mono ?_; rintro e u ⟨rfl, b⟩
  have BB := nx BB b
  have kr := kr.next b
  have kt := kt.next b
  clear b
  refine hK.out _ _ ⟨kr.cell, kt.cell⟩ (fun hHeld => ?_)
  clear hK K
  (try simp only [Act.put, List.setIfInBounds_toArray, List.set_cons_zero, List.set_cons_succ])
  refine wpAnyH_take (i := 24) (v := ?_) rfl (by as_aux_lemma => kernel_rfl) (by as_aux_lemma => kernel_rfl) (by as_aux_lemma => kernel_rfl) (fun _ _ _ h => h) (Or.inl ⟨by first | kernel_rfl | rfl, ?_⟩) (by assumption) ?_
  rotate_left
  · intro w hSw
    (try dsimp only at hSw)
    (try go_split_ands)
    go_simp
    try with_reducible rfl
  (try simp only [Act.put, List.setIfInBounds_toArray, List.set_cons_zero, List.set_cons_succ])
  refine wpAnyH_take (i := 25) (v := ?_) rfl (by as_aux_lemma => kernel_rfl) (by as_aux_lemma => kernel_rfl) (by as_aux_lemma => kernel_rfl) (fun _ _ _ h => h) (Or.inl ⟨by first | kernel_rfl | rfl, ?_⟩) (by assumption) ?_
  rotate_left
  · intro w hSw
    (try dsimp only at hSw)
    (try go_split_ands)
    go_simp
    try with_reducible rfl
  (try simp only [Act.put, List.setIfInBounds_toArray, List.set_cons_zero, List.set_cons_succ])
  refine wpAnyH_take (i := 26) (v := ?_) rfl (by as_aux_lemma => kernel_rfl) (by as_aux_lemma => kernel_rfl) (by as_aux_lemma => kernel_rfl) (fun _ _ _ h => h) (Or.inl ⟨by first | kernel_rfl | rfl, ?_⟩) (by assumption) ?_
  rotate_left
  · intro w hSw
    (try dsimp only at hSw)
    (try go_split_ands)
    go_simp
    try with_reducible rfl
  (try simp only [Act.put, List.setIfInBounds_toArray, List.set_cons_zero, List.set_cons_succ])
  refine wpAnyH_done (by as_aux_lemma => kernel_rfl) ?_ _
  (try simp only [List.getElem_toArray, List.getElem_cons_succ, List.getElem_cons_zero, Act.put, List.setIfInBounds_toArray, List.set_cons_zero, List.set_cons_succ])
  go_wp2_with fail
  go_ret
  exact ⟨ret_bool (by simp), BB⟩

end Go.Proofs.Ytbidkjhgodkamaa
