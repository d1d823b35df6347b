/-
Contract of the program's keeps: whether equal sums of two go to equal sums. Conditions: two groups, lists of the same length, at most 1000, of numbers from 0 to 999.
-/
import Derived.Test.YtokpgbpdmfibjaaKpl
import Derived.Deep.RegionHeld3
namespace Go.Proofs.Ytokpgbpdmfibjaa
open Go.RowKit Go.ChangeShapes
set_option linter.unusedVariables false
set_option linter.unusedSimpArgs false

set_option maxRecDepth 20000 in
set_option maxHeartbeats 12800000 in
theorem keeps_impl (ag : Option Addr) (cg : Nat) (os : List Int) (ah : Option Addr) (ch : Nat) (hs : List Int) (al : Option Addr) (cl : Nat) (l : List Int) (am : Option Addr) (cm : Nat) (m : List Int) (n : Nat) (w : World) (h0 : Ints w ag cg os) (h1 : Ints w ah ch hs) (k0 : Ints w al cl l) (k1 : Ints w am cm m) (hg0 : grpB os = true) (hh0 : grpB hs = true) (hl : l.length = n) (hm : m.length = n) (hn : n ≤ 1000) (hle : ∀ x ∈ l, 0 ≤ x ∧ x < 1000) (hme : ∀ x ∈ m, 0 ≤ x ∧ x < 1000) :
    Calls Try.prog 120 #[.agg #[.slice ag os.length cg], .agg #[.slice ah hs.length ch], .slice al n cl, .slice am n cm] w fun e w' => e = .returned (.bool (kpB os hs l m n)) ∧ Below w.heap.size w w' := by
  have X0 : KpW w ag cg os ah ch hs ((w.alloc (.cells #[.slice ag os.length cg] 26)).alloc (.cells #[.slice ah hs.length ch] 26)) := by
    have ha := (Below.refl w.heap.size w).alloc (Nat.le_refl _) (.cells #[.slice ag os.length cg] 26)
    have hb := ha.alloc (by simp) (.cells #[.slice ah hs.length ch] 26)
    have hb2 := (Below.refl (w.alloc (.cells #[.slice ag os.length cg] 26)).heap.size (w.alloc (.cells #[.slice ag os.length cg] 26))).alloc (Nat.le_refl _) (.cells #[.slice ah hs.length ch] 26)
    refine ⟨hb, ?_, cell_of_one (new_at (by simp)), by simp⟩
    rw [hb2.cell (p := ⟨w.heap.size, 0, none⟩) (by simp)]
    exact cell_of_one (new_at rfl)
  have HL := Lib.hid (fun h => k0.elts hl (fun x hx => (hle x hx).1) h)
  have HM := Lib.hid (fun h => k1.elts hm (fun x hx => (hme x hx).1) h)
  have HE : Hid (∀ i, elt l i < 1000 ∧ elt m i < 1000) := Lib.hid (fun i => ⟨elt_k hle i, elt_k hme i⟩)
  have AG := Lib.hid (fun x y w h hx hy => add_any ag cg os x y w h hg0 hx hy)
  have AH := Lib.hid (fun x y w h hx hy => add_any ah ch hs x y w h hh0 hx hy)
  have HLE := Lib.hid (@kp_half os hs l m n)
  have HNO := Lib.hid (fun i j p q h1 h2 h3 h4 h5 => @kpB_no os hs l m n i j p q h1 h2 h3 h4 h5)
  obtain ⟨r, hr⟩ : ∃ r, r = kpB os hs l m n := ⟨_, rfl⟩
  rw [← hr] at HLE HNO ⊢
  clear hr k0 k1 hg0 hh0 hl hm hle hme
  go_enter Try.func120, Try.ntmps120
  go_wp2_with fail
  go_loopw [15] (fun vi wr => ∃ i : Nat, i ≤ n ∧ vi = .int .i64 (i : Int) ∧ Hid (∀ i' j p q, i' < i → i' ≤ j → j < n → p ≤ q → q < n → kpAt os hs l m i' j p q) ∧ KpW w ag cg os ah ch hs wr) (fun vi _ => n - (intOf vi).toNat)
  case atStart => exact ⟨0, by omega, rfl, Lib.hid (fun i' j p q h => by omega), X0⟩
  case round =>
    clear X0
    obtain ⟨i, hi, rfl, HI, X⟩ := hrel
    by_cases hi2 : i < n
    · have hii : (i : Int) < n := by omega
      have hn0 : 0 < n := by omega
      obtain ⟨bl, ol, rfl, hbl, hcl⟩ := HL.out hn0
      obtain ⟨bm, om, rfl, hbm, hcm⟩ := HM.out hn0
      have DL := Lib.hid hcl
      have DM := Lib.hid hcm
      clear hcl hcm
      go_wp2_with fail
      go_loopw [10] (fun vj wr => ∃ j : Nat, i ≤ j ∧ j ≤ n ∧ vj = .int .i64 (j : Int) ∧ Hid (∀ j' p q, i ≤ j' → j' < j → p ≤ q → q < n → kpAt os hs l m i j' p q) ∧ KpW w ag cg os ah ch hs wr) (fun vj _ => n - (intOf vj).toNat)
      case atStart => exact ⟨i, by omega, by omega, rfl, Lib.hid (fun j' p q h1 h2 => by omega), X⟩
      case round =>
        clear X
        obtain ⟨j, hij, hj, rfl, HJ, X⟩ := hrel
        by_cases hj2 : j < n
        · have hjj : (j : Int) < n := by omega
          go_wp2_with fail
          go_loopw [27] (fun vp wr => ∃ p : Nat, p ≤ n ∧ vp = .int .i64 (p : Int) ∧ Hid (∀ p' q, p' < p → p' ≤ q → q < n → kpAt os hs l m i j p' q) ∧ KpW w ag cg os ah ch hs wr) (fun vp _ => n - (intOf vp).toNat)
          case atStart => exact ⟨0, by omega, rfl, Lib.hid (fun p' q h => by omega), X⟩
          case round =>
            clear X
            obtain ⟨p, hp, rfl, HP, X⟩ := hrel
            by_cases hp2 : p < n
            · have hpp : (p : Int) < n := by omega
              have hpn : (p : Int) < n := by omega
              go_wp2_with fail
              go_loopw [12] (fun vq wr => ∃ q : Nat, p ≤ q ∧ q ≤ n ∧ vq = .int .i64 (q : Int) ∧ Hid (∀ q', p ≤ q' → q' < q → kpAt os hs l m i j p q') ∧ KpW w ag cg os ah ch hs wr) (fun vq _ => n - (intOf vq).toNat)
              case atStart => exact ⟨p, by omega, by omega, rfl, Lib.hid (fun q' h1 h2 => by omega), X⟩
              case round =>
                clear X
                obtain ⟨q, hpq, hq, rfl, HQ, X⟩ := hrel
                by_cases hq2 : q < n
                · have hqq : (q : Int) < n := by omega
                  have dl1 := DL.out i hi2
                  have dl2 := DL.out j hj2
                  have dl3 := DL.out p (by omega)
                  have dl4 := DL.out q hq2
                  have dm1 := DM.out i hi2
                  have dm2 := DM.out j hj2
                  have dm3 := DM.out p (by omega)
                  have dm4 := DM.out q hq2
                  have e1 := HE.out i
                  have e2 := HE.out j
                  have e3 := HE.out p
                  have e4 := HE.out q
                  have HAT : Hid (kpAt os hs l m i j p q ↔ (gadd os (elt l i) (elt l j) = gadd os (elt l p) (elt l q) → gadd hs (elt m i) (elt m j) = gadd hs (elt m p) (elt m q))) := Lib.hid Iff.rfl
                  have HNX : Hid (kpAt os hs l m i j p q → ∀ q', p ≤ q' → q' < q + 1 → kpAt os hs l m i j p q') := Lib.hid (fun h q' g1 g2 => by
                    by_cases e : q' = q
                    · subst e; exact h
                    · exact HQ.out q' g1 (by omega))
                  have HNR : Hid (¬ kpAt os hs l m i j p q → r = false) := Lib.hid (fun h => HNO.out i j p q hi2 hj2 (by omega) hq2 h)
                  obtain ⟨x1, hx1⟩ : ∃ x, x = elt l i := ⟨_, rfl⟩
                  obtain ⟨x2, hx2⟩ : ∃ x, x = elt l j := ⟨_, rfl⟩
                  obtain ⟨x3, hx3⟩ : ∃ x, x = elt l p := ⟨_, rfl⟩
                  obtain ⟨x4, hx4⟩ : ∃ x, x = elt l q := ⟨_, rfl⟩
                  obtain ⟨y1, hy1⟩ : ∃ x, x = elt m i := ⟨_, rfl⟩
                  obtain ⟨y2, hy2⟩ : ∃ x, x = elt m j := ⟨_, rfl⟩
                  obtain ⟨y3, hy3⟩ : ∃ x, x = elt m p := ⟨_, rfl⟩
                  obtain ⟨y4, hy4⟩ : ∃ x, x = elt m q := ⟨_, rfl⟩
                  rw [← hx1] at dl1 e1 HAT
                  rw [← hx2] at dl2 e2 HAT
                  rw [← hx3] at dl3 e3 HAT
                  rw [← hx4] at dl4 e4 HAT
                  rw [← hy1] at dm1 e1 HAT
                  rw [← hy2] at dm2 e2 HAT
                  rw [← hy3] at dm3 e3 HAT
                  rw [← hy4] at dm4 e4 HAT
                  have A1 := Lib.hid (fun w h => AG.out x1 x2 w h (by omega) (by omega))
                  have A2 := Lib.hid (fun w h => AG.out x3 x4 w h (by omega) (by omega))
                  have A3 := Lib.hid (fun w h => AH.out y1 y2 w h (by omega) (by omega))
                  have A4 := Lib.hid (fun w h => AH.out y3 y4 w h (by omega) (by omega))
                  obtain ⟨u1, hu1⟩ : ∃ x, x = gadd os x1 x2 := ⟨_, rfl⟩
                  obtain ⟨u2, hu2⟩ : ∃ x, x = gadd os x3 x4 := ⟨_, rfl⟩
                  obtain ⟨v1, hv1⟩ : ∃ x, x = gadd hs y1 y2 := ⟨_, rfl⟩
                  obtain ⟨v2, hv2⟩ : ∃ x, x = gadd hs y3 y4 := ⟨_, rfl⟩
                  rw [← hu1] at A1 HAT
                  rw [← hu2] at A2 HAT
                  rw [← hv1] at A3 HAT
                  rw [← hv2] at A4 HAT
                  clear hx1 hx2 hx3 hx4 hy1 hy2 hy3 hy4 hu1 hu2 hv1 hv2 e1 e2 e3 e4
                  by_cases hu : u1 = u2
                  · have hub : ((u1 : Int) == (u2 : Int)) = true := by rw [hu]; simp
                    by_cases hv : v1 = v2
                    · have hvb : ((v1 : Int) != (v2 : Int)) = false := by rw [hv]; simp
                      have HQ2 := Lib.hid (HNX.out (HAT.out.2 (fun _ => hv)))
                      clear hu hv
                      go_wp2_with fail
                      have X := X.drew
                      refine wp_region_held_drew (S := (fun w' => w'.cell? ⟨w.heap.size, 0, none⟩ = some (.slice ag os.length cg) ∧ w'.cell? ⟨w.heap.size + 1, 0, none⟩ = some (.slice ah hs.length ch) ∧ w'.cell? ⟨bl, ol + i, none⟩ = some (.int .i64 (x1 : Int)) ∧ w'.cell? ⟨bl, ol + j, none⟩ = some (.int .i64 (x2 : Int)) ∧ w'.cell? ⟨bl, ol + p, none⟩ = some (.int .i64 (x3 : Int)) ∧ w'.cell? ⟨bl, ol + q, none⟩ = some (.int .i64 (x4 : Int)) ∧ w'.cell? ⟨bm, om + i, none⟩ = some (.int .i64 (y1 : Int)) ∧ w'.cell? ⟨bm, om + j, none⟩ = some (.int .i64 (y2 : Int)) ∧ w'.cell? ⟨bm, om + p, none⟩ = some (.int .i64 (y3 : Int)) ∧ w'.cell? ⟨bm, om + q, none⟩ = some (.int .i64 (y4 : Int)))) (by as_aux_lemma => kernel_rfl) ⟨X.c1, X.c2, (X.bel.cell (p := ⟨bl, ol + i, none⟩) hbl).trans dl1, (X.bel.cell (p := ⟨bl, ol + j, none⟩) hbl).trans dl2, (X.bel.cell (p := ⟨bl, ol + p, none⟩) hbl).trans dl3, (X.bel.cell (p := ⟨bl, ol + q, none⟩) hbl).trans dl4, (X.bel.cell (p := ⟨bm, om + i, none⟩) hbm).trans dm1, (X.bel.cell (p := ⟨bm, om + j, none⟩) hbm).trans dm2, (X.bel.cell (p := ⟨bm, om + p, none⟩) hbm).trans dm3, (X.bel.cell (p := ⟨bm, om + q, none⟩) hbm).trans dm4⟩ (fun hHeld => ?_)
                      refine wpAnyH_take (i := 0) (v := ?_) rfl (by as_aux_lemma => kernel_rfl) (by as_aux_lemma => kernel_rfl) (by as_aux_lemma => kernel_rfl) (fun _ _ _ h => h) (Or.inl ⟨by first | kernel_rfl | rfl, ?_⟩) (by assumption) ?_
                      rotate_left
                      · intro w hSw
                        (try dsimp only at hSw)
                        (try go_split_ands)
                        go_simp
                        try with_reducible rfl
                      (try simp only [Act.put, List.setIfInBounds_toArray, List.set_cons_zero, List.set_cons_succ])
                      refine wpAnyH_take (i := 1) (v := ?_) rfl (by as_aux_lemma => kernel_rfl) (by as_aux_lemma => kernel_rfl) (by as_aux_lemma => kernel_rfl) (fun _ _ _ h => h) (Or.inl ⟨by first | kernel_rfl | rfl, ?_⟩) (by assumption) ?_
                      rotate_left
                      · intro w hSw
                        (try dsimp only at hSw)
                        (try go_split_ands)
                        go_simp
                        try with_reducible rfl
                      (try simp only [Act.put, List.setIfInBounds_toArray, List.set_cons_zero, List.set_cons_succ])
                      refine wpAnyH_take (i := 2) (v := ?_) rfl (by as_aux_lemma => kernel_rfl) (by as_aux_lemma => kernel_rfl) (by as_aux_lemma => kernel_rfl) (fun _ _ _ h => h) (Or.inl ⟨by first | kernel_rfl | rfl, ?_⟩) (by assumption) ?_
                      rotate_left
                      · intro w hSw
                        (try dsimp only at hSw)
                        (try go_split_ands)
                        go_simp
                        try with_reducible rfl
                      (try simp only [Act.put, List.setIfInBounds_toArray, List.set_cons_zero, List.set_cons_succ])
                      refine wpAnyH_take (i := 3) (v := ?_) rfl (by as_aux_lemma => kernel_rfl) (by as_aux_lemma => kernel_rfl) (by as_aux_lemma => kernel_rfl) (fun _ _ _ h => h) (Or.inl ⟨by first | kernel_rfl | rfl, ?_⟩) (by assumption) ?_
                      rotate_left
                      · intro w hSw
                        (try dsimp only at hSw)
                        (try go_split_ands)
                        go_simp
                        try with_reducible rfl
                      (try simp only [Act.put, List.setIfInBounds_toArray, List.set_cons_zero, List.set_cons_succ])
                      refine wpAnyH_take (i := 4) (v := ?_) rfl (by as_aux_lemma => kernel_rfl) (by as_aux_lemma => kernel_rfl) (by as_aux_lemma => kernel_rfl) (fun _ _ _ h => h) (Or.inl ⟨by first | kernel_rfl | rfl, ?_⟩) (by assumption) ?_
                      rotate_left
                      · intro w hSw
                        (try dsimp only at hSw)
                        (try go_split_ands)
                        go_simp
                        try with_reducible rfl
                      (try simp only [Act.put, List.setIfInBounds_toArray, List.set_cons_zero, List.set_cons_succ])
                      refine wpAnyH_take (i := 5) (v := ?_) rfl (by as_aux_lemma => kernel_rfl) (by as_aux_lemma => kernel_rfl) (by as_aux_lemma => kernel_rfl) (fun _ _ _ h => h) (Or.inl ⟨by first | kernel_rfl | rfl, ?_⟩) (by assumption) ?_
                      rotate_left
                      · intro w hSw
                        (try dsimp only at hSw)
                        (try go_split_ands)
                        go_simp
                        try with_reducible rfl
                      (try simp only [Act.put, List.setIfInBounds_toArray, List.set_cons_zero, List.set_cons_succ])
                      refine wpAnyH_take (i := 6) (v := ?_) rfl (by as_aux_lemma => kernel_rfl) (by as_aux_lemma => kernel_rfl) (by as_aux_lemma => kernel_rfl) (fun _ _ _ h => h) (Or.inl ⟨by first | kernel_rfl | rfl, ?_⟩) (by assumption) ?_
                      rotate_left
                      · intro w hSw
                        (try dsimp only at hSw)
                        (try go_split_ands)
                        go_simp
                        try with_reducible rfl
                      (try simp only [Act.put, List.setIfInBounds_toArray, List.set_cons_zero, List.set_cons_succ])
                      refine wpAnyH_take (i := 7) (v := ?_) rfl (by as_aux_lemma => kernel_rfl) (by as_aux_lemma => kernel_rfl) (by as_aux_lemma => kernel_rfl) (fun _ _ _ h => h) (Or.inl ⟨by first | kernel_rfl | rfl, ?_⟩) (by assumption) ?_
                      rotate_left
                      · intro w hSw
                        (try dsimp only at hSw)
                        (try go_split_ands)
                        go_simp
                        try with_reducible rfl
                      (try simp only [Act.put, List.setIfInBounds_toArray, List.set_cons_zero, List.set_cons_succ])
                      refine wpAnyH_take (i := 8) (v := ?_) rfl (by as_aux_lemma => kernel_rfl) (by as_aux_lemma => kernel_rfl) (by as_aux_lemma => kernel_rfl) (fun _ _ _ h => h) (Or.inl ⟨by first | kernel_rfl | rfl, ?_⟩) (by assumption) ?_
                      rotate_left
                      · intro w hSw
                        (try dsimp only at hSw)
                        (try go_split_ands)
                        go_simp
                        try with_reducible rfl
                      (try simp only [Act.put, List.setIfInBounds_toArray, List.set_cons_zero, List.set_cons_succ])
                      refine wpAnyH_take (i := 10) (v := ?_) rfl (by as_aux_lemma => kernel_rfl) (by as_aux_lemma => kernel_rfl) (by as_aux_lemma => kernel_rfl) (fun _ _ _ h => h) (Or.inl ⟨by first | kernel_rfl | rfl, ?_⟩) (by assumption) ?_
                      rotate_left
                      · intro w hSw
                        (try dsimp only at hSw)
                        (try go_split_ands)
                        go_simp
                        try with_reducible rfl
                      (try simp only [Act.put, List.setIfInBounds_toArray, List.set_cons_zero, List.set_cons_succ])
                      refine wpAnyH_take (i := 11) (v := ?_) rfl (by as_aux_lemma => kernel_rfl) (by as_aux_lemma => kernel_rfl) (by as_aux_lemma => kernel_rfl) (fun _ _ _ h => h) (Or.inl ⟨by first | kernel_rfl | rfl, ?_⟩) (by assumption) ?_
                      rotate_left
                      · intro w hSw
                        (try dsimp only at hSw)
                        (try go_split_ands)
                        go_simp
                        try with_reducible rfl
                      (try simp only [Act.put, List.setIfInBounds_toArray, List.set_cons_zero, List.set_cons_succ])
                      refine wpAnyH_take (i := 12) (v := ?_) rfl (by as_aux_lemma => kernel_rfl) (by as_aux_lemma => kernel_rfl) (by as_aux_lemma => kernel_rfl) (fun _ _ _ h => h) (Or.inl ⟨by first | kernel_rfl | rfl, ?_⟩) (by assumption) ?_
                      rotate_left
                      · intro w hSw
                        (try dsimp only at hSw)
                        (try go_split_ands)
                        go_simp
                        try with_reducible rfl
                      (try simp only [Act.put, List.setIfInBounds_toArray, List.set_cons_zero, List.set_cons_succ])
                      refine wpAnyH_take (i := 13) (v := ?_) rfl (by as_aux_lemma => kernel_rfl) (by as_aux_lemma => kernel_rfl) (by as_aux_lemma => kernel_rfl) (fun _ _ _ h => h) (Or.inl ⟨by first | kernel_rfl | rfl, ?_⟩) (by assumption) ?_
                      rotate_left
                      · intro w hSw
                        (try dsimp only at hSw)
                        (try go_split_ands)
                        go_simp
                        try with_reducible rfl
                      (try simp only [Act.put, List.setIfInBounds_toArray, List.set_cons_zero, List.set_cons_succ])
                      refine wpAnyH_take (i := 14) (v := ?_) rfl (by as_aux_lemma => kernel_rfl) (by as_aux_lemma => kernel_rfl) (by as_aux_lemma => kernel_rfl) (fun _ _ _ h => h) (Or.inl ⟨by first | kernel_rfl | rfl, ?_⟩) (by assumption) ?_
                      rotate_left
                      · intro w hSw
                        (try dsimp only at hSw)
                        (try go_split_ands)
                        go_simp
                        try with_reducible rfl
                      (try simp only [Act.put, List.setIfInBounds_toArray, List.set_cons_zero, List.set_cons_succ])
                      refine wpAnyH_take (i := 15) (v := ?_) rfl (by as_aux_lemma => kernel_rfl) (by as_aux_lemma => kernel_rfl) (by as_aux_lemma => kernel_rfl) (fun _ _ _ h => h) (Or.inl ⟨by first | kernel_rfl | rfl, ?_⟩) (by assumption) ?_
                      rotate_left
                      · intro w hSw
                        (try dsimp only at hSw)
                        (try go_split_ands)
                        go_simp
                        try with_reducible rfl
                      (try simp only [Act.put, List.setIfInBounds_toArray, List.set_cons_zero, List.set_cons_succ])
                      refine wpAnyH_take (i := 16) (v := ?_) rfl (by as_aux_lemma => kernel_rfl) (by as_aux_lemma => kernel_rfl) (by as_aux_lemma => kernel_rfl) (fun _ _ _ h => h) (Or.inl ⟨by first | kernel_rfl | rfl, ?_⟩) (by assumption) ?_
                      rotate_left
                      · intro w hSw
                        (try dsimp only at hSw)
                        (try go_split_ands)
                        go_simp
                        try with_reducible rfl
                      (try simp only [Act.put, List.setIfInBounds_toArray, List.set_cons_zero, List.set_cons_succ])
                      refine wpAnyH_take (i := 17) (v := ?_) rfl (by as_aux_lemma => kernel_rfl) (by as_aux_lemma => kernel_rfl) (by as_aux_lemma => kernel_rfl) (fun _ _ _ h => h) (Or.inl ⟨by first | kernel_rfl | rfl, ?_⟩) (by assumption) ?_
                      rotate_left
                      · intro w hSw
                        (try dsimp only at hSw)
                        (try go_split_ands)
                        go_simp
                        try with_reducible rfl
                      (try simp only [Act.put, List.setIfInBounds_toArray, List.set_cons_zero, List.set_cons_succ])
                      refine wpAnyH_take (i := 18) (v := ?_) rfl (by as_aux_lemma => kernel_rfl) (by as_aux_lemma => kernel_rfl) (by as_aux_lemma => kernel_rfl) (fun _ _ _ h => h) (Or.inl ⟨by first | kernel_rfl | rfl, ?_⟩) (by assumption) ?_
                      rotate_left
                      · intro w hSw
                        (try dsimp only at hSw)
                        (try go_split_ands)
                        go_simp
                        try with_reducible rfl
                      (try simp only [Act.put, List.setIfInBounds_toArray, List.set_cons_zero, List.set_cons_succ])
                      refine wpAnyH_ready (rs := [9]) (by as_aux_lemma => kernel_rfl) (by simp) ?_
                      refine AllReadyH.cons rfl (fun K hK => ?_) AllReadyH.nil
                      go_simp
                      go_at_call 79
                      refine (A1.out _ (h0.below X.bel (Nat.le_refl _))).mono ?_; rintro e u ⟨rfl, b⟩
                      have X := X.next b
                      clear b
                      refine hK.out _ _ ⟨X.c1, X.c2, (X.bel.cell (p := ⟨bl, ol + i, none⟩) hbl).trans dl1, (X.bel.cell (p := ⟨bl, ol + j, none⟩) hbl).trans dl2, (X.bel.cell (p := ⟨bl, ol + p, none⟩) hbl).trans dl3, (X.bel.cell (p := ⟨bl, ol + q, none⟩) hbl).trans dl4, (X.bel.cell (p := ⟨bm, om + i, none⟩) hbm).trans dm1, (X.bel.cell (p := ⟨bm, om + j, none⟩) hbm).trans dm2, (X.bel.cell (p := ⟨bm, om + p, none⟩) hbm).trans dm3, (X.bel.cell (p := ⟨bm, om + q, none⟩) hbm).trans dm4⟩ (fun hHeld => ?_)
                      clear hK K
                      (try simp only [Act.put, List.setIfInBounds_toArray, List.set_cons_zero, List.set_cons_succ])
                      refine wpAnyH_ready (rs := [19]) (by as_aux_lemma => kernel_rfl) (by simp) ?_
                      refine AllReadyH.cons rfl (fun K hK => ?_) AllReadyH.nil
                      go_simp
                      go_at_call 79
                      refine (A2.out _ (h0.below X.bel (Nat.le_refl _))).mono ?_; rintro e u ⟨rfl, b⟩
                      have X := X.next b
                      clear b
                      refine hK.out _ _ ⟨X.c1, X.c2, (X.bel.cell (p := ⟨bl, ol + i, none⟩) hbl).trans dl1, (X.bel.cell (p := ⟨bl, ol + j, none⟩) hbl).trans dl2, (X.bel.cell (p := ⟨bl, ol + p, none⟩) hbl).trans dl3, (X.bel.cell (p := ⟨bl, ol + q, none⟩) hbl).trans dl4, (X.bel.cell (p := ⟨bm, om + i, none⟩) hbm).trans dm1, (X.bel.cell (p := ⟨bm, om + j, none⟩) hbm).trans dm2, (X.bel.cell (p := ⟨bm, om + p, none⟩) hbm).trans dm3, (X.bel.cell (p := ⟨bm, om + q, none⟩) hbm).trans dm4⟩ (fun hHeld => ?_)
                      clear hK K
                      (try simp only [Act.put, List.setIfInBounds_toArray, List.set_cons_zero, List.set_cons_succ])
                      refine wpAnyH_take (i := 20) (v := ?_) rfl (by as_aux_lemma => kernel_rfl) (by as_aux_lemma => kernel_rfl) (by as_aux_lemma => kernel_rfl) (fun _ _ _ h => h) (Or.inl ⟨by first | kernel_rfl | rfl, ?_⟩) (by assumption) ?_
                      rotate_left
                      · intro w hSw
                        (try dsimp only at hSw)
                        (try go_split_ands)
                        go_simp
                        try with_reducible rfl
                      (try simp only [Act.put, List.setIfInBounds_toArray, List.set_cons_zero, List.set_cons_succ])
                      refine wpAnyH_take (i := 21) (v := ?_) rfl (by as_aux_lemma => kernel_rfl) (by as_aux_lemma => kernel_rfl) (by as_aux_lemma => kernel_rfl) (fun _ _ _ h => h) (Or.inl ⟨by first | kernel_rfl | rfl, ?_⟩) (by assumption) ?_
                      rotate_left
                      · intro w hSw
                        (try dsimp only at hSw)
                        (try go_split_ands)
                        go_simp
                        try with_reducible rfl
                      (try simp only [Act.put, List.setIfInBounds_toArray, List.set_cons_zero, List.set_cons_succ])
                      refine wpAnyH_take (i := 22) (v := ?_) rfl (by as_aux_lemma => kernel_rfl) (by as_aux_lemma => kernel_rfl) (by as_aux_lemma => kernel_rfl) (fun _ _ _ h => h) (Or.inl ⟨by first | kernel_rfl | rfl, ?_⟩) (by assumption) ?_
                      rotate_left
                      · intro w hSw
                        (try dsimp only at hSw)
                        (try go_split_ands)
                        go_simp
                        try with_reducible rfl
                      (try simp only [Act.put, List.setIfInBounds_toArray, List.set_cons_zero, List.set_cons_succ])
                      refine wpAnyH_take (i := 23) (v := ?_) rfl (by as_aux_lemma => kernel_rfl) (by as_aux_lemma => kernel_rfl) (by as_aux_lemma => kernel_rfl) (fun _ _ _ h => h) (Or.inl ⟨by first | kernel_rfl | rfl, ?_⟩) (by assumption) ?_
                      rotate_left
                      · intro w hSw
                        (try dsimp only at hSw)
                        (try go_split_ands)
                        go_simp
                        try with_reducible rfl
                      (try simp only [Act.put, List.setIfInBounds_toArray, List.set_cons_zero, List.set_cons_succ])
                      refine wpAnyH_take (i := 24) (v := ?_) rfl (by as_aux_lemma => kernel_rfl) (by as_aux_lemma => kernel_rfl) (by as_aux_lemma => kernel_rfl) (fun _ _ _ h => h) (Or.inl ⟨by first | kernel_rfl | rfl, ?_⟩) (by assumption) ?_
                      rotate_left
                      · intro w hSw
                        (try dsimp only at hSw)
                        (try go_split_ands)
                        go_simp
                        try with_reducible rfl
                      (try simp only [Act.put, List.setIfInBounds_toArray, List.set_cons_zero, List.set_cons_succ])
                      refine wpAnyH_take (i := 25) (v := ?_) rfl (by as_aux_lemma => kernel_rfl) (by as_aux_lemma => kernel_rfl) (by as_aux_lemma => kernel_rfl) (fun _ _ _ h => h) (Or.inl ⟨by first | kernel_rfl | rfl, ?_⟩) (by assumption) ?_
                      rotate_left
                      · intro w hSw
                        (try dsimp only at hSw)
                        (try go_split_ands)
                        go_simp
                        try with_reducible rfl
                      (try simp only [Act.put, List.setIfInBounds_toArray, List.set_cons_zero, List.set_cons_succ])
                      refine wpAnyH_take (i := 26) (v := ?_) rfl (by as_aux_lemma => kernel_rfl) (by as_aux_lemma => kernel_rfl) (by as_aux_lemma => kernel_rfl) (fun _ _ _ h => h) (Or.inl ⟨by first | kernel_rfl | rfl, ?_⟩) (by assumption) ?_
                      rotate_left
                      · intro w hSw
                        (try dsimp only at hSw)
                        (try go_split_ands)
                        go_simp
                        try with_reducible rfl
                      (try simp only [Act.put, List.setIfInBounds_toArray, List.set_cons_zero, List.set_cons_succ])
                      refine wpAnyH_take (i := 27) (v := ?_) rfl (by as_aux_lemma => kernel_rfl) (by as_aux_lemma => kernel_rfl) (by as_aux_lemma => kernel_rfl) (fun _ _ _ h => h) (Or.inl ⟨by first | kernel_rfl | rfl, ?_⟩) (by assumption) ?_
                      rotate_left
                      · intro w hSw
                        (try dsimp only at hSw)
                        (try go_split_ands)
                        go_simp
                        try with_reducible rfl
                      (try simp only [Act.put, List.setIfInBounds_toArray, List.set_cons_zero, List.set_cons_succ])
                      refine wpAnyH_take (i := 28) (v := ?_) rfl (by as_aux_lemma => kernel_rfl) (by as_aux_lemma => kernel_rfl) (by as_aux_lemma => kernel_rfl) (fun _ _ _ h => h) (Or.inl ⟨by first | kernel_rfl | rfl, ?_⟩) (by assumption) ?_
                      rotate_left
                      · intro w hSw
                        (try dsimp only at hSw)
                        (try go_split_ands)
                        go_simp
                        try with_reducible rfl
                      (try simp only [Act.put, List.setIfInBounds_toArray, List.set_cons_zero, List.set_cons_succ])
                      refine wpAnyH_take (i := 29) (v := ?_) rfl (by as_aux_lemma => kernel_rfl) (by as_aux_lemma => kernel_rfl) (by as_aux_lemma => kernel_rfl) (fun _ _ _ h => h) (Or.inl ⟨by first | kernel_rfl | rfl, ?_⟩) (by assumption) ?_
                      rotate_left
                      · intro w hSw
                        (try dsimp only at hSw)
                        (try go_split_ands)
                        go_simp
                        try with_reducible rfl
                      (try simp only [Act.put, List.setIfInBounds_toArray, List.set_cons_zero, List.set_cons_succ])
                      refine wpAnyH_take (i := 30) (v := ?_) rfl (by as_aux_lemma => kernel_rfl) (by as_aux_lemma => kernel_rfl) (by as_aux_lemma => kernel_rfl) (fun _ _ _ h => h) (Or.inl ⟨by first | kernel_rfl | rfl, ?_⟩) (by assumption) ?_
                      rotate_left
                      · intro w hSw
                        (try dsimp only at hSw)
                        (try go_split_ands)
                        go_simp
                        try with_reducible rfl
                      (try simp only [Act.put, List.setIfInBounds_toArray, List.set_cons_zero, List.set_cons_succ])
                      refine wpAnyH_take (i := 32) (v := ?_) rfl (by as_aux_lemma => kernel_rfl) (by as_aux_lemma => kernel_rfl) (by as_aux_lemma => kernel_rfl) (fun _ _ _ h => h) (Or.inl ⟨by first | kernel_rfl | rfl, ?_⟩) (by assumption) ?_
                      rotate_left
                      · intro w hSw
                        (try dsimp only at hSw)
                        (try go_split_ands)
                        go_simp
                        try with_reducible rfl
                      (try simp only [Act.put, List.setIfInBounds_toArray, List.set_cons_zero, List.set_cons_succ])
                      refine wpAnyH_take (i := 33) (v := ?_) rfl (by as_aux_lemma => kernel_rfl) (by as_aux_lemma => kernel_rfl) (by as_aux_lemma => kernel_rfl) (fun _ _ _ h => h) (Or.inl ⟨by first | kernel_rfl | rfl, ?_⟩) (by assumption) ?_
                      rotate_left
                      · intro w hSw
                        (try dsimp only at hSw)
                        (try go_split_ands)
                        go_simp
                        try with_reducible rfl
                      (try simp only [Act.put, List.setIfInBounds_toArray, List.set_cons_zero, List.set_cons_succ])
                      refine wpAnyH_take (i := 34) (v := ?_) rfl (by as_aux_lemma => kernel_rfl) (by as_aux_lemma => kernel_rfl) (by as_aux_lemma => kernel_rfl) (fun _ _ _ h => h) (Or.inl ⟨by first | kernel_rfl | rfl, ?_⟩) (by assumption) ?_
                      rotate_left
                      · intro w hSw
                        (try dsimp only at hSw)
                        (try go_split_ands)
                        go_simp
                        try with_reducible rfl
                      (try simp only [Act.put, List.setIfInBounds_toArray, List.set_cons_zero, List.set_cons_succ])
                      refine wpAnyH_take (i := 35) (v := ?_) rfl (by as_aux_lemma => kernel_rfl) (by as_aux_lemma => kernel_rfl) (by as_aux_lemma => kernel_rfl) (fun _ _ _ h => h) (Or.inl ⟨by first | kernel_rfl | rfl, ?_⟩) (by assumption) ?_
                      rotate_left
                      · intro w hSw
                        (try dsimp only at hSw)
                        (try go_split_ands)
                        go_simp
                        try with_reducible rfl
                      (try simp only [Act.put, List.setIfInBounds_toArray, List.set_cons_zero, List.set_cons_succ])
                      refine wpAnyH_take (i := 36) (v := ?_) rfl (by as_aux_lemma => kernel_rfl) (by as_aux_lemma => kernel_rfl) (by as_aux_lemma => kernel_rfl) (fun _ _ _ h => h) (Or.inl ⟨by first | kernel_rfl | rfl, ?_⟩) (by assumption) ?_
                      rotate_left
                      · intro w hSw
                        (try dsimp only at hSw)
                        (try go_split_ands)
                        go_simp
                        try with_reducible rfl
                      (try simp only [Act.put, List.setIfInBounds_toArray, List.set_cons_zero, List.set_cons_succ])
                      refine wpAnyH_take (i := 37) (v := ?_) rfl (by as_aux_lemma => kernel_rfl) (by as_aux_lemma => kernel_rfl) (by as_aux_lemma => kernel_rfl) (fun _ _ _ h => h) (Or.inl ⟨by first | kernel_rfl | rfl, ?_⟩) (by assumption) ?_
                      rotate_left
                      · intro w hSw
                        (try dsimp only at hSw)
                        (try go_split_ands)
                        go_simp
                        try with_reducible rfl
                      (try simp only [Act.put, List.setIfInBounds_toArray, List.set_cons_zero, List.set_cons_succ])
                      refine wpAnyH_take (i := 38) (v := ?_) rfl (by as_aux_lemma => kernel_rfl) (by as_aux_lemma => kernel_rfl) (by as_aux_lemma => kernel_rfl) (fun _ _ _ h => h) (Or.inl ⟨by first | kernel_rfl | rfl, ?_⟩) (by assumption) ?_
                      rotate_left
                      · intro w hSw
                        (try dsimp only at hSw)
                        (try go_split_ands)
                        go_simp
                        try with_reducible rfl
                      (try simp only [Act.put, List.setIfInBounds_toArray, List.set_cons_zero, List.set_cons_succ])
                      refine wpAnyH_take (i := 39) (v := ?_) rfl (by as_aux_lemma => kernel_rfl) (by as_aux_lemma => kernel_rfl) (by as_aux_lemma => kernel_rfl) (fun _ _ _ h => h) (Or.inl ⟨by first | kernel_rfl | rfl, ?_⟩) (by assumption) ?_
                      rotate_left
                      · intro w hSw
                        (try dsimp only at hSw)
                        (try go_split_ands)
                        go_simp
                        try with_reducible rfl
                      (try simp only [Act.put, List.setIfInBounds_toArray, List.set_cons_zero, List.set_cons_succ])
                      refine wpAnyH_take (i := 40) (v := ?_) rfl (by as_aux_lemma => kernel_rfl) (by as_aux_lemma => kernel_rfl) (by as_aux_lemma => kernel_rfl) (fun _ _ _ h => h) (Or.inl ⟨by first | kernel_rfl | rfl, ?_⟩) (by assumption) ?_
                      rotate_left
                      · intro w hSw
                        (try dsimp only at hSw)
                        (try go_split_ands)
                        go_simp
                        try with_reducible rfl
                      (try simp only [Act.put, List.setIfInBounds_toArray, List.set_cons_zero, List.set_cons_succ])
                      refine wpAnyH_ready (rs := [31]) (by as_aux_lemma => kernel_rfl) (by simp) ?_
                      refine AllReadyH.cons rfl (fun K hK => ?_) AllReadyH.nil
                      go_simp
                      go_at_call 79
                      refine (A3.out _ (h1.below X.bel (Nat.le_refl _))).mono ?_; rintro e u ⟨rfl, b⟩
                      have X := X.next b
                      clear b
                      refine hK.out _ _ ⟨X.c1, X.c2, (X.bel.cell (p := ⟨bl, ol + i, none⟩) hbl).trans dl1, (X.bel.cell (p := ⟨bl, ol + j, none⟩) hbl).trans dl2, (X.bel.cell (p := ⟨bl, ol + p, none⟩) hbl).trans dl3, (X.bel.cell (p := ⟨bl, ol + q, none⟩) hbl).trans dl4, (X.bel.cell (p := ⟨bm, om + i, none⟩) hbm).trans dm1, (X.bel.cell (p := ⟨bm, om + j, none⟩) hbm).trans dm2, (X.bel.cell (p := ⟨bm, om + p, none⟩) hbm).trans dm3, (X.bel.cell (p := ⟨bm, om + q, none⟩) hbm).trans dm4⟩ (fun hHeld => ?_)
                      clear hK K
                      (try simp only [Act.put, List.setIfInBounds_toArray, List.set_cons_zero, List.set_cons_succ])
                      refine wpAnyH_ready (rs := [41]) (by as_aux_lemma => kernel_rfl) (by simp) ?_
                      refine AllReadyH.cons rfl (fun K hK => ?_) AllReadyH.nil
                      go_simp
                      go_at_call 79
                      refine (A4.out _ (h1.below X.bel (Nat.le_refl _))).mono ?_; rintro e u ⟨rfl, b⟩
                      have X := X.next b
                      clear b
                      refine hK.out _ _ ⟨X.c1, X.c2, (X.bel.cell (p := ⟨bl, ol + i, none⟩) hbl).trans dl1, (X.bel.cell (p := ⟨bl, ol + j, none⟩) hbl).trans dl2, (X.bel.cell (p := ⟨bl, ol + p, none⟩) hbl).trans dl3, (X.bel.cell (p := ⟨bl, ol + q, none⟩) hbl).trans dl4, (X.bel.cell (p := ⟨bm, om + i, none⟩) hbm).trans dm1, (X.bel.cell (p := ⟨bm, om + j, none⟩) hbm).trans dm2, (X.bel.cell (p := ⟨bm, om + p, none⟩) hbm).trans dm3, (X.bel.cell (p := ⟨bm, om + q, none⟩) hbm).trans dm4⟩ (fun hHeld => ?_)
                      clear hK K
                      (try simp only [Act.put, List.setIfInBounds_toArray, List.set_cons_zero, List.set_cons_succ])
                      refine wpAnyH_take (i := 42) (v := ?_) rfl (by as_aux_lemma => kernel_rfl) (by as_aux_lemma => kernel_rfl) (by as_aux_lemma => kernel_rfl) (fun _ _ _ h => h) (Or.inl ⟨by first | kernel_rfl | rfl, ?_⟩) (by assumption) ?_
                      rotate_left
                      · intro w hSw
                        (try dsimp only at hSw)
                        (try go_split_ands)
                        go_simp
                        try with_reducible rfl
                      (try simp only [Act.put, List.setIfInBounds_toArray, List.set_cons_zero, List.set_cons_succ])
                      refine wpAnyH_take (i := 43) (v := ?_) rfl (by as_aux_lemma => kernel_rfl) (by as_aux_lemma => kernel_rfl) (by as_aux_lemma => kernel_rfl) (fun _ _ _ h => h) (Or.inl ⟨by first | kernel_rfl | rfl, ?_⟩) (by assumption) ?_
                      rotate_left
                      · intro w hSw
                        (try dsimp only at hSw)
                        (try go_split_ands)
                        go_simp
                        try with_reducible rfl
                      (try simp only [Act.put, List.setIfInBounds_toArray, List.set_cons_zero, List.set_cons_succ])
                      refine wpAnyH_done (by as_aux_lemma => kernel_rfl) ?_ _
                      (try simp only [List.getElem_toArray, List.getElem_cons_succ, List.getElem_cons_zero, Act.put, List.setIfInBounds_toArray, List.set_cons_zero, List.set_cons_succ])
                      go_wp2_with fail
                      go_roundw
                      case rel => exact ⟨q + 1, by omega, by omega, by go_num, HQ2, X⟩
                      case measure => simp [intOf]; omega
                    · have hvb : ((v1 : Int) != (v2 : Int)) = true := by simp; omega
                      have hr := HNR.out (fun h => hv (HAT.out.1 h hu))
                      clear hu hv
                      go_wp2_with fail
                      have X := X.drew
                      refine wp_region_held_drew (S := (fun w' => w'.cell? ⟨w.heap.size, 0, none⟩ = some (.slice ag os.length cg) ∧ w'.cell? ⟨w.heap.size + 1, 0, none⟩ = some (.slice ah hs.length ch) ∧ w'.cell? ⟨bl, ol + i, none⟩ = some (.int .i64 (x1 : Int)) ∧ w'.cell? ⟨bl, ol + j, none⟩ = some (.int .i64 (x2 : Int)) ∧ w'.cell? ⟨bl, ol + p, none⟩ = some (.int .i64 (x3 : Int)) ∧ w'.cell? ⟨bl, ol + q, none⟩ = some (.int .i64 (x4 : Int)) ∧ w'.cell? ⟨bm, om + i, none⟩ = some (.int .i64 (y1 : Int)) ∧ w'.cell? ⟨bm, om + j, none⟩ = some (.int .i64 (y2 : Int)) ∧ w'.cell? ⟨bm, om + p, none⟩ = some (.int .i64 (y3 : Int)) ∧ w'.cell? ⟨bm, om + q, none⟩ = some (.int .i64 (y4 : Int)))) (by as_aux_lemma => kernel_rfl) ⟨X.c1, X.c2, (X.bel.cell (p := ⟨bl, ol + i, none⟩) hbl).trans dl1, (X.bel.cell (p := ⟨bl, ol + j, none⟩) hbl).trans dl2, (X.bel.cell (p := ⟨bl, ol + p, none⟩) hbl).trans dl3, (X.bel.cell (p := ⟨bl, ol + q, none⟩) hbl).trans dl4, (X.bel.cell (p := ⟨bm, om + i, none⟩) hbm).trans dm1, (X.bel.cell (p := ⟨bm, om + j, none⟩) hbm).trans dm2, (X.bel.cell (p := ⟨bm, om + p, none⟩) hbm).trans dm3, (X.bel.cell (p := ⟨bm, om + q, none⟩) hbm).trans dm4⟩ (fun hHeld => ?_)
                      refine wpAnyH_take (i := 0) (v := ?_) rfl (by as_aux_lemma => kernel_rfl) (by as_aux_lemma => kernel_rfl) (by as_aux_lemma => kernel_rfl) (fun _ _ _ h => h) (Or.inl ⟨by first | kernel_rfl | rfl, ?_⟩) (by assumption) ?_
                      rotate_left
                      · intro w hSw
                        (try dsimp only at hSw)
                        (try go_split_ands)
                        go_simp
                        try with_reducible rfl
                      (try simp only [Act.put, List.setIfInBounds_toArray, List.set_cons_zero, List.set_cons_succ])
                      refine wpAnyH_take (i := 1) (v := ?_) rfl (by as_aux_lemma => kernel_rfl) (by as_aux_lemma => kernel_rfl) (by as_aux_lemma => kernel_rfl) (fun _ _ _ h => h) (Or.inl ⟨by first | kernel_rfl | rfl, ?_⟩) (by assumption) ?_
                      rotate_left
                      · intro w hSw
                        (try dsimp only at hSw)
                        (try go_split_ands)
                        go_simp
                        try with_reducible rfl
                      (try simp only [Act.put, List.setIfInBounds_toArray, List.set_cons_zero, List.set_cons_succ])
                      refine wpAnyH_take (i := 2) (v := ?_) rfl (by as_aux_lemma => kernel_rfl) (by as_aux_lemma => kernel_rfl) (by as_aux_lemma => kernel_rfl) (fun _ _ _ h => h) (Or.inl ⟨by first | kernel_rfl | rfl, ?_⟩) (by assumption) ?_
                      rotate_left
                      · intro w hSw
                        (try dsimp only at hSw)
                        (try go_split_ands)
                        go_simp
                        try with_reducible rfl
                      (try simp only [Act.put, List.setIfInBounds_toArray, List.set_cons_zero, List.set_cons_succ])
                      refine wpAnyH_take (i := 3) (v := ?_) rfl (by as_aux_lemma => kernel_rfl) (by as_aux_lemma => kernel_rfl) (by as_aux_lemma => kernel_rfl) (fun _ _ _ h => h) (Or.inl ⟨by first | kernel_rfl | rfl, ?_⟩) (by assumption) ?_
                      rotate_left
                      · intro w hSw
                        (try dsimp only at hSw)
                        (try go_split_ands)
                        go_simp
                        try with_reducible rfl
                      (try simp only [Act.put, List.setIfInBounds_toArray, List.set_cons_zero, List.set_cons_succ])
                      refine wpAnyH_take (i := 4) (v := ?_) rfl (by as_aux_lemma => kernel_rfl) (by as_aux_lemma => kernel_rfl) (by as_aux_lemma => kernel_rfl) (fun _ _ _ h => h) (Or.inl ⟨by first | kernel_rfl | rfl, ?_⟩) (by assumption) ?_
                      rotate_left
                      · intro w hSw
                        (try dsimp only at hSw)
                        (try go_split_ands)
                        go_simp
                        try with_reducible rfl
                      (try simp only [Act.put, List.setIfInBounds_toArray, List.set_cons_zero, List.set_cons_succ])
                      refine wpAnyH_take (i := 5) (v := ?_) rfl (by as_aux_lemma => kernel_rfl) (by as_aux_lemma => kernel_rfl) (by as_aux_lemma => kernel_rfl) (fun _ _ _ h => h) (Or.inl ⟨by first | kernel_rfl | rfl, ?_⟩) (by assumption) ?_
                      rotate_left
                      · intro w hSw
                        (try dsimp only at hSw)
                        (try go_split_ands)
                        go_simp
                        try with_reducible rfl
                      (try simp only [Act.put, List.setIfInBounds_toArray, List.set_cons_zero, List.set_cons_succ])
                      refine wpAnyH_take (i := 6) (v := ?_) rfl (by as_aux_lemma => kernel_rfl) (by as_aux_lemma => kernel_rfl) (by as_aux_lemma => kernel_rfl) (fun _ _ _ h => h) (Or.inl ⟨by first | kernel_rfl | rfl, ?_⟩) (by assumption) ?_
                      rotate_left
                      · intro w hSw
                        (try dsimp only at hSw)
                        (try go_split_ands)
                        go_simp
                        try with_reducible rfl
                      (try simp only [Act.put, List.setIfInBounds_toArray, List.set_cons_zero, List.set_cons_succ])
                      refine wpAnyH_take (i := 7) (v := ?_) rfl (by as_aux_lemma => kernel_rfl) (by as_aux_lemma => kernel_rfl) (by as_aux_lemma => kernel_rfl) (fun _ _ _ h => h) (Or.inl ⟨by first | kernel_rfl | rfl, ?_⟩) (by assumption) ?_
                      rotate_left
                      · intro w hSw
                        (try dsimp only at hSw)
                        (try go_split_ands)
                        go_simp
                        try with_reducible rfl
                      (try simp only [Act.put, List.setIfInBounds_toArray, List.set_cons_zero, List.set_cons_succ])
                      refine wpAnyH_take (i := 8) (v := ?_) rfl (by as_aux_lemma => kernel_rfl) (by as_aux_lemma => kernel_rfl) (by as_aux_lemma => kernel_rfl) (fun _ _ _ h => h) (Or.inl ⟨by first | kernel_rfl | rfl, ?_⟩) (by assumption) ?_
                      rotate_left
                      · intro w hSw
                        (try dsimp only at hSw)
                        (try go_split_ands)
                        go_simp
                        try with_reducible rfl
                      (try simp only [Act.put, List.setIfInBounds_toArray, List.set_cons_zero, List.set_cons_succ])
                      refine wpAnyH_take (i := 10) (v := ?_) rfl (by as_aux_lemma => kernel_rfl) (by as_aux_lemma => kernel_rfl) (by as_aux_lemma => kernel_rfl) (fun _ _ _ h => h) (Or.inl ⟨by first | kernel_rfl | rfl, ?_⟩) (by assumption) ?_
                      rotate_left
                      · intro w hSw
                        (try dsimp only at hSw)
                        (try go_split_ands)
                        go_simp
                        try with_reducible rfl
                      (try simp only [Act.put, List.setIfInBounds_toArray, List.set_cons_zero, List.set_cons_succ])
                      refine wpAnyH_take (i := 11) (v := ?_) rfl (by as_aux_lemma => kernel_rfl) (by as_aux_lemma => kernel_rfl) (by as_aux_lemma => kernel_rfl) (fun _ _ _ h => h) (Or.inl ⟨by first | kernel_rfl | rfl, ?_⟩) (by assumption) ?_
                      rotate_left
                      · intro w hSw
                        (try dsimp only at hSw)
                        (try go_split_ands)
                        go_simp
                        try with_reducible rfl
                      (try simp only [Act.put, List.setIfInBounds_toArray, List.set_cons_zero, List.set_cons_succ])
                      refine wpAnyH_take (i := 12) (v := ?_) rfl (by as_aux_lemma => kernel_rfl) (by as_aux_lemma => kernel_rfl) (by as_aux_lemma => kernel_rfl) (fun _ _ _ h => h) (Or.inl ⟨by first | kernel_rfl | rfl, ?_⟩) (by assumption) ?_
                      rotate_left
                      · intro w hSw
                        (try dsimp only at hSw)
                        (try go_split_ands)
                        go_simp
                        try with_reducible rfl
                      (try simp only [Act.put, List.setIfInBounds_toArray, List.set_cons_zero, List.set_cons_succ])
                      refine wpAnyH_take (i := 13) (v := ?_) rfl (by as_aux_lemma => kernel_rfl) (by as_aux_lemma => kernel_rfl) (by as_aux_lemma => kernel_rfl) (fun _ _ _ h => h) (Or.inl ⟨by first | kernel_rfl | rfl, ?_⟩) (by assumption) ?_
                      rotate_left
                      · intro w hSw
                        (try dsimp only at hSw)
                        (try go_split_ands)
                        go_simp
                        try with_reducible rfl
                      (try simp only [Act.put, List.setIfInBounds_toArray, List.set_cons_zero, List.set_cons_succ])
                      refine wpAnyH_take (i := 14) (v := ?_) rfl (by as_aux_lemma => kernel_rfl) (by as_aux_lemma => kernel_rfl) (by as_aux_lemma => kernel_rfl) (fun _ _ _ h => h) (Or.inl ⟨by first | kernel_rfl | rfl, ?_⟩) (by assumption) ?_
                      rotate_left
                      · intro w hSw
                        (try dsimp only at hSw)
                        (try go_split_ands)
                        go_simp
                        try with_reducible rfl
                      (try simp only [Act.put, List.setIfInBounds_toArray, List.set_cons_zero, List.set_cons_succ])
                      refine wpAnyH_take (i := 15) (v := ?_) rfl (by as_aux_lemma => kernel_rfl) (by as_aux_lemma => kernel_rfl) (by as_aux_lemma => kernel_rfl) (fun _ _ _ h => h) (Or.inl ⟨by first | kernel_rfl | rfl, ?_⟩) (by assumption) ?_
                      rotate_left
                      · intro w hSw
                        (try dsimp only at hSw)
                        (try go_split_ands)
                        go_simp
                        try with_reducible rfl
                      (try simp only [Act.put, List.setIfInBounds_toArray, List.set_cons_zero, List.set_cons_succ])
                      refine wpAnyH_take (i := 16) (v := ?_) rfl (by as_aux_lemma => kernel_rfl) (by as_aux_lemma => kernel_rfl) (by as_aux_lemma => kernel_rfl) (fun _ _ _ h => h) (Or.inl ⟨by first | kernel_rfl | rfl, ?_⟩) (by assumption) ?_
                      rotate_left
                      · intro w hSw
                        (try dsimp only at hSw)
                        (try go_split_ands)
                        go_simp
                        try with_reducible rfl
                      (try simp only [Act.put, List.setIfInBounds_toArray, List.set_cons_zero, List.set_cons_succ])
                      refine wpAnyH_take (i := 17) (v := ?_) rfl (by as_aux_lemma => kernel_rfl) (by as_aux_lemma => kernel_rfl) (by as_aux_lemma => kernel_rfl) (fun _ _ _ h => h) (Or.inl ⟨by first | kernel_rfl | rfl, ?_⟩) (by assumption) ?_
                      rotate_left
                      · intro w hSw
                        (try dsimp only at hSw)
                        (try go_split_ands)
                        go_simp
                        try with_reducible rfl
                      (try simp only [Act.put, List.setIfInBounds_toArray, List.set_cons_zero, List.set_cons_succ])
                      refine wpAnyH_take (i := 18) (v := ?_) rfl (by as_aux_lemma => kernel_rfl) (by as_aux_lemma => kernel_rfl) (by as_aux_lemma => kernel_rfl) (fun _ _ _ h => h) (Or.inl ⟨by first | kernel_rfl | rfl, ?_⟩) (by assumption) ?_
                      rotate_left
                      · intro w hSw
                        (try dsimp only at hSw)
                        (try go_split_ands)
                        go_simp
                        try with_reducible rfl
                      (try simp only [Act.put, List.setIfInBounds_toArray, List.set_cons_zero, List.set_cons_succ])
                      refine wpAnyH_ready (rs := [9]) (by as_aux_lemma => kernel_rfl) (by simp) ?_
                      refine AllReadyH.cons rfl (fun K hK => ?_) AllReadyH.nil
                      go_simp
                      go_at_call 79
                      refine (A1.out _ (h0.below X.bel (Nat.le_refl _))).mono ?_; rintro e u ⟨rfl, b⟩
                      have X := X.next b
                      clear b
                      refine hK.out _ _ ⟨X.c1, X.c2, (X.bel.cell (p := ⟨bl, ol + i, none⟩) hbl).trans dl1, (X.bel.cell (p := ⟨bl, ol + j, none⟩) hbl).trans dl2, (X.bel.cell (p := ⟨bl, ol + p, none⟩) hbl).trans dl3, (X.bel.cell (p := ⟨bl, ol + q, none⟩) hbl).trans dl4, (X.bel.cell (p := ⟨bm, om + i, none⟩) hbm).trans dm1, (X.bel.cell (p := ⟨bm, om + j, none⟩) hbm).trans dm2, (X.bel.cell (p := ⟨bm, om + p, none⟩) hbm).trans dm3, (X.bel.cell (p := ⟨bm, om + q, none⟩) hbm).trans dm4⟩ (fun hHeld => ?_)
                      clear hK K
                      (try simp only [Act.put, List.setIfInBounds_toArray, List.set_cons_zero, List.set_cons_succ])
                      refine wpAnyH_ready (rs := [19]) (by as_aux_lemma => kernel_rfl) (by simp) ?_
                      refine AllReadyH.cons rfl (fun K hK => ?_) AllReadyH.nil
                      go_simp
                      go_at_call 79
                      refine (A2.out _ (h0.below X.bel (Nat.le_refl _))).mono ?_; rintro e u ⟨rfl, b⟩
                      have X := X.next b
                      clear b
                      refine hK.out _ _ ⟨X.c1, X.c2, (X.bel.cell (p := ⟨bl, ol + i, none⟩) hbl).trans dl1, (X.bel.cell (p := ⟨bl, ol + j, none⟩) hbl).trans dl2, (X.bel.cell (p := ⟨bl, ol + p, none⟩) hbl).trans dl3, (X.bel.cell (p := ⟨bl, ol + q, none⟩) hbl).trans dl4, (X.bel.cell (p := ⟨bm, om + i, none⟩) hbm).trans dm1, (X.bel.cell (p := ⟨bm, om + j, none⟩) hbm).trans dm2, (X.bel.cell (p := ⟨bm, om + p, none⟩) hbm).trans dm3, (X.bel.cell (p := ⟨bm, om + q, none⟩) hbm).trans dm4⟩ (fun hHeld => ?_)
                      clear hK K
                      (try simp only [Act.put, List.setIfInBounds_toArray, List.set_cons_zero, List.set_cons_succ])
                      refine wpAnyH_take (i := 20) (v := ?_) rfl (by as_aux_lemma => kernel_rfl) (by as_aux_lemma => kernel_rfl) (by as_aux_lemma => kernel_rfl) (fun _ _ _ h => h) (Or.inl ⟨by first | kernel_rfl | rfl, ?_⟩) (by assumption) ?_
                      rotate_left
                      · intro w hSw
                        (try dsimp only at hSw)
                        (try go_split_ands)
                        go_simp
                        try with_reducible rfl
                      (try simp only [Act.put, List.setIfInBounds_toArray, List.set_cons_zero, List.set_cons_succ])
                      refine wpAnyH_take (i := 21) (v := ?_) rfl (by as_aux_lemma => kernel_rfl) (by as_aux_lemma => kernel_rfl) (by as_aux_lemma => kernel_rfl) (fun _ _ _ h => h) (Or.inl ⟨by first | kernel_rfl | rfl, ?_⟩) (by assumption) ?_
                      rotate_left
                      · intro w hSw
                        (try dsimp only at hSw)
                        (try go_split_ands)
                        go_simp
                        try with_reducible rfl
                      (try simp only [Act.put, List.setIfInBounds_toArray, List.set_cons_zero, List.set_cons_succ])
                      refine wpAnyH_take (i := 22) (v := ?_) rfl (by as_aux_lemma => kernel_rfl) (by as_aux_lemma => kernel_rfl) (by as_aux_lemma => kernel_rfl) (fun _ _ _ h => h) (Or.inl ⟨by first | kernel_rfl | rfl, ?_⟩) (by assumption) ?_
                      rotate_left
                      · intro w hSw
                        (try dsimp only at hSw)
                        (try go_split_ands)
                        go_simp
                        try with_reducible rfl
                      (try simp only [Act.put, List.setIfInBounds_toArray, List.set_cons_zero, List.set_cons_succ])
                      refine wpAnyH_take (i := 23) (v := ?_) rfl (by as_aux_lemma => kernel_rfl) (by as_aux_lemma => kernel_rfl) (by as_aux_lemma => kernel_rfl) (fun _ _ _ h => h) (Or.inl ⟨by first | kernel_rfl | rfl, ?_⟩) (by assumption) ?_
                      rotate_left
                      · intro w hSw
                        (try dsimp only at hSw)
                        (try go_split_ands)
                        go_simp
                        try with_reducible rfl
                      (try simp only [Act.put, List.setIfInBounds_toArray, List.set_cons_zero, List.set_cons_succ])
                      refine wpAnyH_take (i := 24) (v := ?_) rfl (by as_aux_lemma => kernel_rfl) (by as_aux_lemma => kernel_rfl) (by as_aux_lemma => kernel_rfl) (fun _ _ _ h => h) (Or.inl ⟨by first | kernel_rfl | rfl, ?_⟩) (by assumption) ?_
                      rotate_left
                      · intro w hSw
                        (try dsimp only at hSw)
                        (try go_split_ands)
                        go_simp
                        try with_reducible rfl
                      (try simp only [Act.put, List.setIfInBounds_toArray, List.set_cons_zero, List.set_cons_succ])
                      refine wpAnyH_take (i := 25) (v := ?_) rfl (by as_aux_lemma => kernel_rfl) (by as_aux_lemma => kernel_rfl) (by as_aux_lemma => kernel_rfl) (fun _ _ _ h => h) (Or.inl ⟨by first | kernel_rfl | rfl, ?_⟩) (by assumption) ?_
                      rotate_left
                      · intro w hSw
                        (try dsimp only at hSw)
                        (try go_split_ands)
                        go_simp
                        try with_reducible rfl
                      (try simp only [Act.put, List.setIfInBounds_toArray, List.set_cons_zero, List.set_cons_succ])
                      refine wpAnyH_take (i := 26) (v := ?_) rfl (by as_aux_lemma => kernel_rfl) (by as_aux_lemma => kernel_rfl) (by as_aux_lemma => kernel_rfl) (fun _ _ _ h => h) (Or.inl ⟨by first | kernel_rfl | rfl, ?_⟩) (by assumption) ?_
                      rotate_left
                      · intro w hSw
                        (try dsimp only at hSw)
                        (try go_split_ands)
                        go_simp
                        try with_reducible rfl
                      (try simp only [Act.put, List.setIfInBounds_toArray, List.set_cons_zero, List.set_cons_succ])
                      refine wpAnyH_take (i := 27) (v := ?_) rfl (by as_aux_lemma => kernel_rfl) (by as_aux_lemma => kernel_rfl) (by as_aux_lemma => kernel_rfl) (fun _ _ _ h => h) (Or.inl ⟨by first | kernel_rfl | rfl, ?_⟩) (by assumption) ?_
                      rotate_left
                      · intro w hSw
                        (try dsimp only at hSw)
                        (try go_split_ands)
                        go_simp
                        try with_reducible rfl
                      (try simp only [Act.put, List.setIfInBounds_toArray, List.set_cons_zero, List.set_cons_succ])
                      refine wpAnyH_take (i := 28) (v := ?_) rfl (by as_aux_lemma => kernel_rfl) (by as_aux_lemma => kernel_rfl) (by as_aux_lemma => kernel_rfl) (fun _ _ _ h => h) (Or.inl ⟨by first | kernel_rfl | rfl, ?_⟩) (by assumption) ?_
                      rotate_left
                      · intro w hSw
                        (try dsimp only at hSw)
                        (try go_split_ands)
                        go_simp
                        try with_reducible rfl
                      (try simp only [Act.put, List.setIfInBounds_toArray, List.set_cons_zero, List.set_cons_succ])
                      refine wpAnyH_take (i := 29) (v := ?_) rfl (by as_aux_lemma => kernel_rfl) (by as_aux_lemma => kernel_rfl) (by as_aux_lemma => kernel_rfl) (fun _ _ _ h => h) (Or.inl ⟨by first | kernel_rfl | rfl, ?_⟩) (by assumption) ?_
                      rotate_left
                      · intro w hSw
                        (try dsimp only at hSw)
                        (try go_split_ands)
                        go_simp
                        try with_reducible rfl
                      (try simp only [Act.put, List.setIfInBounds_toArray, List.set_cons_zero, List.set_cons_succ])
                      refine wpAnyH_take (i := 30) (v := ?_) rfl (by as_aux_lemma => kernel_rfl) (by as_aux_lemma => kernel_rfl) (by as_aux_lemma => kernel_rfl) (fun _ _ _ h => h) (Or.inl ⟨by first | kernel_rfl | rfl, ?_⟩) (by assumption) ?_
                      rotate_left
                      · intro w hSw
                        (try dsimp only at hSw)
                        (try go_split_ands)
                        go_simp
                        try with_reducible rfl
                      (try simp only [Act.put, List.setIfInBounds_toArray, List.set_cons_zero, List.set_cons_succ])
                      refine wpAnyH_take (i := 32) (v := ?_) rfl (by as_aux_lemma => kernel_rfl) (by as_aux_lemma => kernel_rfl) (by as_aux_lemma => kernel_rfl) (fun _ _ _ h => h) (Or.inl ⟨by first | kernel_rfl | rfl, ?_⟩) (by assumption) ?_
                      rotate_left
                      · intro w hSw
                        (try dsimp only at hSw)
                        (try go_split_ands)
                        go_simp
                        try with_reducible rfl
                      (try simp only [Act.put, List.setIfInBounds_toArray, List.set_cons_zero, List.set_cons_succ])
                      refine wpAnyH_take (i := 33) (v := ?_) rfl (by as_aux_lemma => kernel_rfl) (by as_aux_lemma => kernel_rfl) (by as_aux_lemma => kernel_rfl) (fun _ _ _ h => h) (Or.inl ⟨by first | kernel_rfl | rfl, ?_⟩) (by assumption) ?_
                      rotate_left
                      · intro w hSw
                        (try dsimp only at hSw)
                        (try go_split_ands)
                        go_simp
                        try with_reducible rfl
                      (try simp only [Act.put, List.setIfInBounds_toArray, List.set_cons_zero, List.set_cons_succ])
                      refine wpAnyH_take (i := 34) (v := ?_) rfl (by as_aux_lemma => kernel_rfl) (by as_aux_lemma => kernel_rfl) (by as_aux_lemma => kernel_rfl) (fun _ _ _ h => h) (Or.inl ⟨by first | kernel_rfl | rfl, ?_⟩) (by assumption) ?_
                      rotate_left
                      · intro w hSw
                        (try dsimp only at hSw)
                        (try go_split_ands)
                        go_simp
                        try with_reducible rfl
                      (try simp only [Act.put, List.setIfInBounds_toArray, List.set_cons_zero, List.set_cons_succ])
                      refine wpAnyH_take (i := 35) (v := ?_) rfl (by as_aux_lemma => kernel_rfl) (by as_aux_lemma => kernel_rfl) (by as_aux_lemma => kernel_rfl) (fun _ _ _ h => h) (Or.inl ⟨by first | kernel_rfl | rfl, ?_⟩) (by assumption) ?_
                      rotate_left
                      · intro w hSw
                        (try dsimp only at hSw)
                        (try go_split_ands)
                        go_simp
                        try with_reducible rfl
                      (try simp only [Act.put, List.setIfInBounds_toArray, List.set_cons_zero, List.set_cons_succ])
                      refine wpAnyH_take (i := 36) (v := ?_) rfl (by as_aux_lemma => kernel_rfl) (by as_aux_lemma => kernel_rfl) (by as_aux_lemma => kernel_rfl) (fun _ _ _ h => h) (Or.inl ⟨by first | kernel_rfl | rfl, ?_⟩) (by assumption) ?_
                      rotate_left
                      · intro w hSw
                        (try dsimp only at hSw)
                        (try go_split_ands)
                        go_simp
                        try with_reducible rfl
                      (try simp only [Act.put, List.setIfInBounds_toArray, List.set_cons_zero, List.set_cons_succ])
                      refine wpAnyH_take (i := 37) (v := ?_) rfl (by as_aux_lemma => kernel_rfl) (by as_aux_lemma => kernel_rfl) (by as_aux_lemma => kernel_rfl) (fun _ _ _ h => h) (Or.inl ⟨by first | kernel_rfl | rfl, ?_⟩) (by assumption) ?_
                      rotate_left
                      · intro w hSw
                        (try dsimp only at hSw)
                        (try go_split_ands)
                        go_simp
                        try with_reducible rfl
                      (try simp only [Act.put, List.setIfInBounds_toArray, List.set_cons_zero, List.set_cons_succ])
                      refine wpAnyH_take (i := 38) (v := ?_) rfl (by as_aux_lemma => kernel_rfl) (by as_aux_lemma => kernel_rfl) (by as_aux_lemma => kernel_rfl) (fun _ _ _ h => h) (Or.inl ⟨by first | kernel_rfl | rfl, ?_⟩) (by assumption) ?_
                      rotate_left
                      · intro w hSw
                        (try dsimp only at hSw)
                        (try go_split_ands)
                        go_simp
                        try with_reducible rfl
                      (try simp only [Act.put, List.setIfInBounds_toArray, List.set_cons_zero, List.set_cons_succ])
                      refine wpAnyH_take (i := 39) (v := ?_) rfl (by as_aux_lemma => kernel_rfl) (by as_aux_lemma => kernel_rfl) (by as_aux_lemma => kernel_rfl) (fun _ _ _ h => h) (Or.inl ⟨by first | kernel_rfl | rfl, ?_⟩) (by assumption) ?_
                      rotate_left
                      · intro w hSw
                        (try dsimp only at hSw)
                        (try go_split_ands)
                        go_simp
                        try with_reducible rfl
                      (try simp only [Act.put, List.setIfInBounds_toArray, List.set_cons_zero, List.set_cons_succ])
                      refine wpAnyH_take (i := 40) (v := ?_) rfl (by as_aux_lemma => kernel_rfl) (by as_aux_lemma => kernel_rfl) (by as_aux_lemma => kernel_rfl) (fun _ _ _ h => h) (Or.inl ⟨by first | kernel_rfl | rfl, ?_⟩) (by assumption) ?_
                      rotate_left
                      · intro w hSw
                        (try dsimp only at hSw)
                        (try go_split_ands)
                        go_simp
                        try with_reducible rfl
                      (try simp only [Act.put, List.setIfInBounds_toArray, List.set_cons_zero, List.set_cons_succ])
                      refine wpAnyH_ready (rs := [31]) (by as_aux_lemma => kernel_rfl) (by simp) ?_
                      refine AllReadyH.cons rfl (fun K hK => ?_) AllReadyH.nil
                      go_simp
                      go_at_call 79
                      refine (A3.out _ (h1.below X.bel (Nat.le_refl _))).mono ?_; rintro e u ⟨rfl, b⟩
                      have X := X.next b
                      clear b
                      refine hK.out _ _ ⟨X.c1, X.c2, (X.bel.cell (p := ⟨bl, ol + i, none⟩) hbl).trans dl1, (X.bel.cell (p := ⟨bl, ol + j, none⟩) hbl).trans dl2, (X.bel.cell (p := ⟨bl, ol + p, none⟩) hbl).trans dl3, (X.bel.cell (p := ⟨bl, ol + q, none⟩) hbl).trans dl4, (X.bel.cell (p := ⟨bm, om + i, none⟩) hbm).trans dm1, (X.bel.cell (p := ⟨bm, om + j, none⟩) hbm).trans dm2, (X.bel.cell (p := ⟨bm, om + p, none⟩) hbm).trans dm3, (X.bel.cell (p := ⟨bm, om + q, none⟩) hbm).trans dm4⟩ (fun hHeld => ?_)
                      clear hK K
                      (try simp only [Act.put, List.setIfInBounds_toArray, List.set_cons_zero, List.set_cons_succ])
                      refine wpAnyH_ready (rs := [41]) (by as_aux_lemma => kernel_rfl) (by simp) ?_
                      refine AllReadyH.cons rfl (fun K hK => ?_) AllReadyH.nil
                      go_simp
                      go_at_call 79
                      refine (A4.out _ (h1.below X.bel (Nat.le_refl _))).mono ?_; rintro e u ⟨rfl, b⟩
                      have X := X.next b
                      clear b
                      refine hK.out _ _ ⟨X.c1, X.c2, (X.bel.cell (p := ⟨bl, ol + i, none⟩) hbl).trans dl1, (X.bel.cell (p := ⟨bl, ol + j, none⟩) hbl).trans dl2, (X.bel.cell (p := ⟨bl, ol + p, none⟩) hbl).trans dl3, (X.bel.cell (p := ⟨bl, ol + q, none⟩) hbl).trans dl4, (X.bel.cell (p := ⟨bm, om + i, none⟩) hbm).trans dm1, (X.bel.cell (p := ⟨bm, om + j, none⟩) hbm).trans dm2, (X.bel.cell (p := ⟨bm, om + p, none⟩) hbm).trans dm3, (X.bel.cell (p := ⟨bm, om + q, none⟩) hbm).trans dm4⟩ (fun hHeld => ?_)
                      clear hK K
                      (try simp only [Act.put, List.setIfInBounds_toArray, List.set_cons_zero, List.set_cons_succ])
                      refine wpAnyH_take (i := 42) (v := ?_) rfl (by as_aux_lemma => kernel_rfl) (by as_aux_lemma => kernel_rfl) (by as_aux_lemma => kernel_rfl) (fun _ _ _ h => h) (Or.inl ⟨by first | kernel_rfl | rfl, ?_⟩) (by assumption) ?_
                      rotate_left
                      · intro w hSw
                        (try dsimp only at hSw)
                        (try go_split_ands)
                        go_simp
                        try with_reducible rfl
                      (try simp only [Act.put, List.setIfInBounds_toArray, List.set_cons_zero, List.set_cons_succ])
                      refine wpAnyH_take (i := 43) (v := ?_) rfl (by as_aux_lemma => kernel_rfl) (by as_aux_lemma => kernel_rfl) (by as_aux_lemma => kernel_rfl) (fun _ _ _ h => h) (Or.inl ⟨by first | kernel_rfl | rfl, ?_⟩) (by assumption) ?_
                      rotate_left
                      · intro w hSw
                        (try dsimp only at hSw)
                        (try go_split_ands)
                        go_simp
                        try with_reducible rfl
                      (try simp only [Act.put, List.setIfInBounds_toArray, List.set_cons_zero, List.set_cons_succ])
                      refine wpAnyH_done (by as_aux_lemma => kernel_rfl) ?_ _
                      (try simp only [List.getElem_toArray, List.getElem_cons_succ, List.getElem_cons_zero, Act.put, List.setIfInBounds_toArray, List.set_cons_zero, List.set_cons_succ])
                      go_wp2_with fail
                      go_ret
                      exact ⟨by rw [hr]; rfl, X.bel⟩
                  · have hub : ((u1 : Int) == (u2 : Int)) = false := by simp; omega
                    have HQ2 := Lib.hid (HNX.out (HAT.out.2 (fun h => absurd h hu)))
                    clear hu
                    go_wp2_with fail
                    have X := X.drew
                    refine wp_region_held_drew (S := (fun w' => w'.cell? ⟨w.heap.size, 0, none⟩ = some (.slice ag os.length cg) ∧ w'.cell? ⟨w.heap.size + 1, 0, none⟩ = some (.slice ah hs.length ch) ∧ w'.cell? ⟨bl, ol + i, none⟩ = some (.int .i64 (x1 : Int)) ∧ w'.cell? ⟨bl, ol + j, none⟩ = some (.int .i64 (x2 : Int)) ∧ w'.cell? ⟨bl, ol + p, none⟩ = some (.int .i64 (x3 : Int)) ∧ w'.cell? ⟨bl, ol + q, none⟩ = some (.int .i64 (x4 : Int)) ∧ w'.cell? ⟨bm, om + i, none⟩ = some (.int .i64 (y1 : Int)) ∧ w'.cell? ⟨bm, om + j, none⟩ = some (.int .i64 (y2 : Int)) ∧ w'.cell? ⟨bm, om + p, none⟩ = some (.int .i64 (y3 : Int)) ∧ w'.cell? ⟨bm, om + q, none⟩ = some (.int .i64 (y4 : Int)))) (by as_aux_lemma => kernel_rfl) ⟨X.c1, X.c2, (X.bel.cell (p := ⟨bl, ol + i, none⟩) hbl).trans dl1, (X.bel.cell (p := ⟨bl, ol + j, none⟩) hbl).trans dl2, (X.bel.cell (p := ⟨bl, ol + p, none⟩) hbl).trans dl3, (X.bel.cell (p := ⟨bl, ol + q, none⟩) hbl).trans dl4, (X.bel.cell (p := ⟨bm, om + i, none⟩) hbm).trans dm1, (X.bel.cell (p := ⟨bm, om + j, none⟩) hbm).trans dm2, (X.bel.cell (p := ⟨bm, om + p, none⟩) hbm).trans dm3, (X.bel.cell (p := ⟨bm, om + q, none⟩) hbm).trans dm4⟩ (fun hHeld => ?_)
                    refine wpAnyH_take (i := 0) (v := ?_) rfl (by as_aux_lemma => kernel_rfl) (by as_aux_lemma => kernel_rfl) (by as_aux_lemma => kernel_rfl) (fun _ _ _ h => h) (Or.inl ⟨by first | kernel_rfl | rfl, ?_⟩) (by assumption) ?_
                    rotate_left
                    · intro w hSw
                      (try dsimp only at hSw)
                      (try go_split_ands)
                      go_simp
                      try with_reducible rfl
                    (try simp only [Act.put, List.setIfInBounds_toArray, List.set_cons_zero, List.set_cons_succ])
                    refine wpAnyH_take (i := 1) (v := ?_) rfl (by as_aux_lemma => kernel_rfl) (by as_aux_lemma => kernel_rfl) (by as_aux_lemma => kernel_rfl) (fun _ _ _ h => h) (Or.inl ⟨by first | kernel_rfl | rfl, ?_⟩) (by assumption) ?_
                    rotate_left
                    · intro w hSw
                      (try dsimp only at hSw)
                      (try go_split_ands)
                      go_simp
                      try with_reducible rfl
                    (try simp only [Act.put, List.setIfInBounds_toArray, List.set_cons_zero, List.set_cons_succ])
                    refine wpAnyH_take (i := 2) (v := ?_) rfl (by as_aux_lemma => kernel_rfl) (by as_aux_lemma => kernel_rfl) (by as_aux_lemma => kernel_rfl) (fun _ _ _ h => h) (Or.inl ⟨by first | kernel_rfl | rfl, ?_⟩) (by assumption) ?_
                    rotate_left
                    · intro w hSw
                      (try dsimp only at hSw)
                      (try go_split_ands)
                      go_simp
                      try with_reducible rfl
                    (try simp only [Act.put, List.setIfInBounds_toArray, List.set_cons_zero, List.set_cons_succ])
                    refine wpAnyH_take (i := 3) (v := ?_) rfl (by as_aux_lemma => kernel_rfl) (by as_aux_lemma => kernel_rfl) (by as_aux_lemma => kernel_rfl) (fun _ _ _ h => h) (Or.inl ⟨by first | kernel_rfl | rfl, ?_⟩) (by assumption) ?_
                    rotate_left
                    · intro w hSw
                      (try dsimp only at hSw)
                      (try go_split_ands)
                      go_simp
                      try with_reducible rfl
                    (try simp only [Act.put, List.setIfInBounds_toArray, List.set_cons_zero, List.set_cons_succ])
                    refine wpAnyH_take (i := 4) (v := ?_) rfl (by as_aux_lemma => kernel_rfl) (by as_aux_lemma => kernel_rfl) (by as_aux_lemma => kernel_rfl) (fun _ _ _ h => h) (Or.inl ⟨by first | kernel_rfl | rfl, ?_⟩) (by assumption) ?_
                    rotate_left
                    · intro w hSw
                      (try dsimp only at hSw)
                      (try go_split_ands)
                      go_simp
                      try with_reducible rfl
                    (try simp only [Act.put, List.setIfInBounds_toArray, List.set_cons_zero, List.set_cons_succ])
                    refine wpAnyH_take (i := 5) (v := ?_) rfl (by as_aux_lemma => kernel_rfl) (by as_aux_lemma => kernel_rfl) (by as_aux_lemma => kernel_rfl) (fun _ _ _ h => h) (Or.inl ⟨by first | kernel_rfl | rfl, ?_⟩) (by assumption) ?_
                    rotate_left
                    · intro w hSw
                      (try dsimp only at hSw)
                      (try go_split_ands)
                      go_simp
                      try with_reducible rfl
                    (try simp only [Act.put, List.setIfInBounds_toArray, List.set_cons_zero, List.set_cons_succ])
                    refine wpAnyH_take (i := 6) (v := ?_) rfl (by as_aux_lemma => kernel_rfl) (by as_aux_lemma => kernel_rfl) (by as_aux_lemma => kernel_rfl) (fun _ _ _ h => h) (Or.inl ⟨by first | kernel_rfl | rfl, ?_⟩) (by assumption) ?_
                    rotate_left
                    · intro w hSw
                      (try dsimp only at hSw)
                      (try go_split_ands)
                      go_simp
                      try with_reducible rfl
                    (try simp only [Act.put, List.setIfInBounds_toArray, List.set_cons_zero, List.set_cons_succ])
                    refine wpAnyH_take (i := 7) (v := ?_) rfl (by as_aux_lemma => kernel_rfl) (by as_aux_lemma => kernel_rfl) (by as_aux_lemma => kernel_rfl) (fun _ _ _ h => h) (Or.inl ⟨by first | kernel_rfl | rfl, ?_⟩) (by assumption) ?_
                    rotate_left
                    · intro w hSw
                      (try dsimp only at hSw)
                      (try go_split_ands)
                      go_simp
                      try with_reducible rfl
                    (try simp only [Act.put, List.setIfInBounds_toArray, List.set_cons_zero, List.set_cons_succ])
                    refine wpAnyH_take (i := 8) (v := ?_) rfl (by as_aux_lemma => kernel_rfl) (by as_aux_lemma => kernel_rfl) (by as_aux_lemma => kernel_rfl) (fun _ _ _ h => h) (Or.inl ⟨by first | kernel_rfl | rfl, ?_⟩) (by assumption) ?_
                    rotate_left
                    · intro w hSw
                      (try dsimp only at hSw)
                      (try go_split_ands)
                      go_simp
                      try with_reducible rfl
                    (try simp only [Act.put, List.setIfInBounds_toArray, List.set_cons_zero, List.set_cons_succ])
                    refine wpAnyH_take (i := 10) (v := ?_) rfl (by as_aux_lemma => kernel_rfl) (by as_aux_lemma => kernel_rfl) (by as_aux_lemma => kernel_rfl) (fun _ _ _ h => h) (Or.inl ⟨by first | kernel_rfl | rfl, ?_⟩) (by assumption) ?_
                    rotate_left
                    · intro w hSw
                      (try dsimp only at hSw)
                      (try go_split_ands)
                      go_simp
                      try with_reducible rfl
                    (try simp only [Act.put, List.setIfInBounds_toArray, List.set_cons_zero, List.set_cons_succ])
                    refine wpAnyH_take (i := 11) (v := ?_) rfl (by as_aux_lemma => kernel_rfl) (by as_aux_lemma => kernel_rfl) (by as_aux_lemma => kernel_rfl) (fun _ _ _ h => h) (Or.inl ⟨by first | kernel_rfl | rfl, ?_⟩) (by assumption) ?_
                    rotate_left
                    · intro w hSw
                      (try dsimp only at hSw)
                      (try go_split_ands)
                      go_simp
                      try with_reducible rfl
                    (try simp only [Act.put, List.setIfInBounds_toArray, List.set_cons_zero, List.set_cons_succ])
                    refine wpAnyH_take (i := 12) (v := ?_) rfl (by as_aux_lemma => kernel_rfl) (by as_aux_lemma => kernel_rfl) (by as_aux_lemma => kernel_rfl) (fun _ _ _ h => h) (Or.inl ⟨by first | kernel_rfl | rfl, ?_⟩) (by assumption) ?_
                    rotate_left
                    · intro w hSw
                      (try dsimp only at hSw)
                      (try go_split_ands)
                      go_simp
                      try with_reducible rfl
                    (try simp only [Act.put, List.setIfInBounds_toArray, List.set_cons_zero, List.set_cons_succ])
                    refine wpAnyH_take (i := 13) (v := ?_) rfl (by as_aux_lemma => kernel_rfl) (by as_aux_lemma => kernel_rfl) (by as_aux_lemma => kernel_rfl) (fun _ _ _ h => h) (Or.inl ⟨by first | kernel_rfl | rfl, ?_⟩) (by assumption) ?_
                    rotate_left
                    · intro w hSw
                      (try dsimp only at hSw)
                      (try go_split_ands)
                      go_simp
                      try with_reducible rfl
                    (try simp only [Act.put, List.setIfInBounds_toArray, List.set_cons_zero, List.set_cons_succ])
                    refine wpAnyH_take (i := 14) (v := ?_) rfl (by as_aux_lemma => kernel_rfl) (by as_aux_lemma => kernel_rfl) (by as_aux_lemma => kernel_rfl) (fun _ _ _ h => h) (Or.inl ⟨by first | kernel_rfl | rfl, ?_⟩) (by assumption) ?_
                    rotate_left
                    · intro w hSw
                      (try dsimp only at hSw)
                      (try go_split_ands)
                      go_simp
                      try with_reducible rfl
                    (try simp only [Act.put, List.setIfInBounds_toArray, List.set_cons_zero, List.set_cons_succ])
                    refine wpAnyH_take (i := 15) (v := ?_) rfl (by as_aux_lemma => kernel_rfl) (by as_aux_lemma => kernel_rfl) (by as_aux_lemma => kernel_rfl) (fun _ _ _ h => h) (Or.inl ⟨by first | kernel_rfl | rfl, ?_⟩) (by assumption) ?_
                    rotate_left
                    · intro w hSw
                      (try dsimp only at hSw)
                      (try go_split_ands)
                      go_simp
                      try with_reducible rfl
                    (try simp only [Act.put, List.setIfInBounds_toArray, List.set_cons_zero, List.set_cons_succ])
                    refine wpAnyH_take (i := 16) (v := ?_) rfl (by as_aux_lemma => kernel_rfl) (by as_aux_lemma => kernel_rfl) (by as_aux_lemma => kernel_rfl) (fun _ _ _ h => h) (Or.inl ⟨by first | kernel_rfl | rfl, ?_⟩) (by assumption) ?_
                    rotate_left
                    · intro w hSw
                      (try dsimp only at hSw)
                      (try go_split_ands)
                      go_simp
                      try with_reducible rfl
                    (try simp only [Act.put, List.setIfInBounds_toArray, List.set_cons_zero, List.set_cons_succ])
                    refine wpAnyH_take (i := 17) (v := ?_) rfl (by as_aux_lemma => kernel_rfl) (by as_aux_lemma => kernel_rfl) (by as_aux_lemma => kernel_rfl) (fun _ _ _ h => h) (Or.inl ⟨by first | kernel_rfl | rfl, ?_⟩) (by assumption) ?_
                    rotate_left
                    · intro w hSw
                      (try dsimp only at hSw)
                      (try go_split_ands)
                      go_simp
                      try with_reducible rfl
                    (try simp only [Act.put, List.setIfInBounds_toArray, List.set_cons_zero, List.set_cons_succ])
                    refine wpAnyH_take (i := 18) (v := ?_) rfl (by as_aux_lemma => kernel_rfl) (by as_aux_lemma => kernel_rfl) (by as_aux_lemma => kernel_rfl) (fun _ _ _ h => h) (Or.inl ⟨by first | kernel_rfl | rfl, ?_⟩) (by assumption) ?_
                    rotate_left
                    · intro w hSw
                      (try dsimp only at hSw)
                      (try go_split_ands)
                      go_simp
                      try with_reducible rfl
                    (try simp only [Act.put, List.setIfInBounds_toArray, List.set_cons_zero, List.set_cons_succ])
                    refine wpAnyH_ready (rs := [9]) (by as_aux_lemma => kernel_rfl) (by simp) ?_
                    refine AllReadyH.cons rfl (fun K hK => ?_) AllReadyH.nil
                    go_simp
                    go_at_call 79
                    refine (A1.out _ (h0.below X.bel (Nat.le_refl _))).mono ?_; rintro e u ⟨rfl, b⟩
                    have X := X.next b
                    clear b
                    refine hK.out _ _ ⟨X.c1, X.c2, (X.bel.cell (p := ⟨bl, ol + i, none⟩) hbl).trans dl1, (X.bel.cell (p := ⟨bl, ol + j, none⟩) hbl).trans dl2, (X.bel.cell (p := ⟨bl, ol + p, none⟩) hbl).trans dl3, (X.bel.cell (p := ⟨bl, ol + q, none⟩) hbl).trans dl4, (X.bel.cell (p := ⟨bm, om + i, none⟩) hbm).trans dm1, (X.bel.cell (p := ⟨bm, om + j, none⟩) hbm).trans dm2, (X.bel.cell (p := ⟨bm, om + p, none⟩) hbm).trans dm3, (X.bel.cell (p := ⟨bm, om + q, none⟩) hbm).trans dm4⟩ (fun hHeld => ?_)
                    clear hK K
                    (try simp only [Act.put, List.setIfInBounds_toArray, List.set_cons_zero, List.set_cons_succ])
                    refine wpAnyH_ready (rs := [19]) (by as_aux_lemma => kernel_rfl) (by simp) ?_
                    refine AllReadyH.cons rfl (fun K hK => ?_) AllReadyH.nil
                    go_simp
                    go_at_call 79
                    refine (A2.out _ (h0.below X.bel (Nat.le_refl _))).mono ?_; rintro e u ⟨rfl, b⟩
                    have X := X.next b
                    clear b
                    refine hK.out _ _ ⟨X.c1, X.c2, (X.bel.cell (p := ⟨bl, ol + i, none⟩) hbl).trans dl1, (X.bel.cell (p := ⟨bl, ol + j, none⟩) hbl).trans dl2, (X.bel.cell (p := ⟨bl, ol + p, none⟩) hbl).trans dl3, (X.bel.cell (p := ⟨bl, ol + q, none⟩) hbl).trans dl4, (X.bel.cell (p := ⟨bm, om + i, none⟩) hbm).trans dm1, (X.bel.cell (p := ⟨bm, om + j, none⟩) hbm).trans dm2, (X.bel.cell (p := ⟨bm, om + p, none⟩) hbm).trans dm3, (X.bel.cell (p := ⟨bm, om + q, none⟩) hbm).trans dm4⟩ (fun hHeld => ?_)
                    clear hK K
                    (try simp only [Act.put, List.setIfInBounds_toArray, List.set_cons_zero, List.set_cons_succ])
                    refine wpAnyH_take (i := 20) (v := ?_) rfl (by as_aux_lemma => kernel_rfl) (by as_aux_lemma => kernel_rfl) (by as_aux_lemma => kernel_rfl) (fun _ _ _ h => h) (Or.inl ⟨by first | kernel_rfl | rfl, ?_⟩) (by assumption) ?_
                    rotate_left
                    · intro w hSw
                      (try dsimp only at hSw)
                      (try go_split_ands)
                      go_simp
                      try with_reducible rfl
                    (try simp only [Act.put, List.setIfInBounds_toArray, List.set_cons_zero, List.set_cons_succ])
                    refine wpAnyH_take (i := 21) (v := ?_) rfl (by as_aux_lemma => kernel_rfl) (by as_aux_lemma => kernel_rfl) (by as_aux_lemma => kernel_rfl) (fun _ _ _ h => h) (Or.inl ⟨by first | kernel_rfl | rfl, ?_⟩) (by assumption) ?_
                    rotate_left
                    · intro w hSw
                      (try dsimp only at hSw)
                      (try go_split_ands)
                      go_simp
                      try with_reducible rfl
                    (try simp only [Act.put, List.setIfInBounds_toArray, List.set_cons_zero, List.set_cons_succ])
                    refine wpAnyH_take (i := 22) (v := undef) rfl (by as_aux_lemma => kernel_rfl) (by as_aux_lemma => kernel_rfl) (by as_aux_lemma => kernel_rfl) (fun _ _ _ h => h) (Or.inr ⟨by kernel_rfl, rfl⟩) (by assumption) ?_
                    (try simp only [Act.put, List.setIfInBounds_toArray, List.set_cons_zero, List.set_cons_succ])
                    refine wpAnyH_take (i := 23) (v := undef) rfl (by as_aux_lemma => kernel_rfl) (by as_aux_lemma => kernel_rfl) (by as_aux_lemma => kernel_rfl) (fun _ _ _ h => h) (Or.inr ⟨by kernel_rfl, rfl⟩) (by assumption) ?_
                    (try simp only [Act.put, List.setIfInBounds_toArray, List.set_cons_zero, List.set_cons_succ])
                    refine wpAnyH_take (i := 24) (v := undef) rfl (by as_aux_lemma => kernel_rfl) (by as_aux_lemma => kernel_rfl) (by as_aux_lemma => kernel_rfl) (fun _ _ _ h => h) (Or.inr ⟨by kernel_rfl, rfl⟩) (by assumption) ?_
                    (try simp only [Act.put, List.setIfInBounds_toArray, List.set_cons_zero, List.set_cons_succ])
                    refine wpAnyH_take (i := 25) (v := undef) rfl (by as_aux_lemma => kernel_rfl) (by as_aux_lemma => kernel_rfl) (by as_aux_lemma => kernel_rfl) (fun _ _ _ h => h) (Or.inr ⟨by kernel_rfl, rfl⟩) (by assumption) ?_
                    (try simp only [Act.put, List.setIfInBounds_toArray, List.set_cons_zero, List.set_cons_succ])
                    refine wpAnyH_take (i := 26) (v := undef) rfl (by as_aux_lemma => kernel_rfl) (by as_aux_lemma => kernel_rfl) (by as_aux_lemma => kernel_rfl) (fun _ _ _ h => h) (Or.inr ⟨by kernel_rfl, rfl⟩) (by assumption) ?_
                    (try simp only [Act.put, List.setIfInBounds_toArray, List.set_cons_zero, List.set_cons_succ])
                    refine wpAnyH_take (i := 27) (v := undef) rfl (by as_aux_lemma => kernel_rfl) (by as_aux_lemma => kernel_rfl) (by as_aux_lemma => kernel_rfl) (fun _ _ _ h => h) (Or.inr ⟨by kernel_rfl, rfl⟩) (by assumption) ?_
                    (try simp only [Act.put, List.setIfInBounds_toArray, List.set_cons_zero, List.set_cons_succ])
                    refine wpAnyH_take (i := 28) (v := undef) rfl (by as_aux_lemma => kernel_rfl) (by as_aux_lemma => kernel_rfl) (by as_aux_lemma => kernel_rfl) (fun _ _ _ h => h) (Or.inr ⟨by kernel_rfl, rfl⟩) (by assumption) ?_
                    (try simp only [Act.put, List.setIfInBounds_toArray, List.set_cons_zero, List.set_cons_succ])
                    refine wpAnyH_take (i := 29) (v := undef) rfl (by as_aux_lemma => kernel_rfl) (by as_aux_lemma => kernel_rfl) (by as_aux_lemma => kernel_rfl) (fun _ _ _ h => h) (Or.inr ⟨by kernel_rfl, rfl⟩) (by assumption) ?_
                    (try simp only [Act.put, List.setIfInBounds_toArray, List.set_cons_zero, List.set_cons_succ])
                    refine wpAnyH_take (i := 30) (v := undef) rfl (by as_aux_lemma => kernel_rfl) (by as_aux_lemma => kernel_rfl) (by as_aux_lemma => kernel_rfl) (fun _ _ _ h => h) (Or.inr ⟨by kernel_rfl, rfl⟩) (by assumption) ?_
                    (try simp only [Act.put, List.setIfInBounds_toArray, List.set_cons_zero, List.set_cons_succ])
                    refine wpAnyH_take (i := 31) (v := undef) rfl (by as_aux_lemma => kernel_rfl) (by as_aux_lemma => kernel_rfl) (by as_aux_lemma => kernel_rfl) (fun _ _ _ h => h) (Or.inr ⟨by kernel_rfl, rfl⟩) (by assumption) ?_
                    (try simp only [Act.put, List.setIfInBounds_toArray, List.set_cons_zero, List.set_cons_succ])
                    refine wpAnyH_take (i := 32) (v := undef) rfl (by as_aux_lemma => kernel_rfl) (by as_aux_lemma => kernel_rfl) (by as_aux_lemma => kernel_rfl) (fun _ _ _ h => h) (Or.inr ⟨by kernel_rfl, rfl⟩) (by assumption) ?_
                    (try simp only [Act.put, List.setIfInBounds_toArray, List.set_cons_zero, List.set_cons_succ])
                    refine wpAnyH_take (i := 33) (v := undef) rfl (by as_aux_lemma => kernel_rfl) (by as_aux_lemma => kernel_rfl) (by as_aux_lemma => kernel_rfl) (fun _ _ _ h => h) (Or.inr ⟨by kernel_rfl, rfl⟩) (by assumption) ?_
                    (try simp only [Act.put, List.setIfInBounds_toArray, List.set_cons_zero, List.set_cons_succ])
                    refine wpAnyH_take (i := 34) (v := undef) rfl (by as_aux_lemma => kernel_rfl) (by as_aux_lemma => kernel_rfl) (by as_aux_lemma => kernel_rfl) (fun _ _ _ h => h) (Or.inr ⟨by kernel_rfl, rfl⟩) (by assumption) ?_
                    (try simp only [Act.put, List.setIfInBounds_toArray, List.set_cons_zero, List.set_cons_succ])
                    refine wpAnyH_take (i := 35) (v := undef) rfl (by as_aux_lemma => kernel_rfl) (by as_aux_lemma => kernel_rfl) (by as_aux_lemma => kernel_rfl) (fun _ _ _ h => h) (Or.inr ⟨by kernel_rfl, rfl⟩) (by assumption) ?_
                    (try simp only [Act.put, List.setIfInBounds_toArray, List.set_cons_zero, List.set_cons_succ])
                    refine wpAnyH_take (i := 36) (v := undef) rfl (by as_aux_lemma => kernel_rfl) (by as_aux_lemma => kernel_rfl) (by as_aux_lemma => kernel_rfl) (fun _ _ _ h => h) (Or.inr ⟨by kernel_rfl, rfl⟩) (by assumption) ?_
                    (try simp only [Act.put, List.setIfInBounds_toArray, List.set_cons_zero, List.set_cons_succ])
                    refine wpAnyH_take (i := 37) (v := undef) rfl (by as_aux_lemma => kernel_rfl) (by as_aux_lemma => kernel_rfl) (by as_aux_lemma => kernel_rfl) (fun _ _ _ h => h) (Or.inr ⟨by kernel_rfl, rfl⟩) (by assumption) ?_
                    (try simp only [Act.put, List.setIfInBounds_toArray, List.set_cons_zero, List.set_cons_succ])
                    refine wpAnyH_take (i := 38) (v := undef) rfl (by as_aux_lemma => kernel_rfl) (by as_aux_lemma => kernel_rfl) (by as_aux_lemma => kernel_rfl) (fun _ _ _ h => h) (Or.inr ⟨by kernel_rfl, rfl⟩) (by assumption) ?_
                    (try simp only [Act.put, List.setIfInBounds_toArray, List.set_cons_zero, List.set_cons_succ])
                    refine wpAnyH_take (i := 39) (v := undef) rfl (by as_aux_lemma => kernel_rfl) (by as_aux_lemma => kernel_rfl) (by as_aux_lemma => kernel_rfl) (fun _ _ _ h => h) (Or.inr ⟨by kernel_rfl, rfl⟩) (by assumption) ?_
                    (try simp only [Act.put, List.setIfInBounds_toArray, List.set_cons_zero, List.set_cons_succ])
                    refine wpAnyH_take (i := 40) (v := undef) rfl (by as_aux_lemma => kernel_rfl) (by as_aux_lemma => kernel_rfl) (by as_aux_lemma => kernel_rfl) (fun _ _ _ h => h) (Or.inr ⟨by kernel_rfl, rfl⟩) (by assumption) ?_
                    (try simp only [Act.put, List.setIfInBounds_toArray, List.set_cons_zero, List.set_cons_succ])
                    refine wpAnyH_take (i := 41) (v := undef) rfl (by as_aux_lemma => kernel_rfl) (by as_aux_lemma => kernel_rfl) (by as_aux_lemma => kernel_rfl) (fun _ _ _ h => h) (Or.inr ⟨by kernel_rfl, rfl⟩) (by assumption) ?_
                    (try simp only [Act.put, List.setIfInBounds_toArray, List.set_cons_zero, List.set_cons_succ])
                    refine wpAnyH_take (i := 42) (v := undef) rfl (by as_aux_lemma => kernel_rfl) (by as_aux_lemma => kernel_rfl) (by as_aux_lemma => kernel_rfl) (fun _ _ _ h => h) (Or.inr ⟨by kernel_rfl, rfl⟩) (by assumption) ?_
                    (try simp only [Act.put, List.setIfInBounds_toArray, List.set_cons_zero, List.set_cons_succ])
                    refine wpAnyH_take (i := 43) (v := ?_) rfl (by as_aux_lemma => kernel_rfl) (by as_aux_lemma => kernel_rfl) (by as_aux_lemma => kernel_rfl) (fun _ _ _ h => h) (Or.inl ⟨by first | kernel_rfl | rfl, ?_⟩) (by assumption) ?_
                    rotate_left
                    · intro w hSw
                      (try dsimp only at hSw)
                      (try go_split_ands)
                      go_simp
                      try with_reducible rfl
                    (try simp only [Act.put, List.setIfInBounds_toArray, List.set_cons_zero, List.set_cons_succ])
                    refine wpAnyH_done (by as_aux_lemma => kernel_rfl) ?_ _
                    (try simp only [List.getElem_toArray, List.getElem_cons_succ, List.getElem_cons_zero, Act.put, List.setIfInBounds_toArray, List.set_cons_zero, List.set_cons_succ])
                    go_wp2_with fail
                    go_roundw
                    case rel => exact ⟨q + 1, by omega, by omega, by go_num, HQ2, X⟩
                    case measure => simp [intOf]; omega
                · obtain rfl : q = n := by omega
                  have HP2 : Hid (∀ p' q', p' < p + 1 → p' ≤ q' → q' < q → kpAt os hs l m i j p' q') := Lib.hid (fun p' q' g1 g2 g3 => by
                    by_cases e : p' = p
                    · subst e; exact HQ.out q' g2 g3
                    · exact HP.out p' q' (by omega) g2 g3)
                  go_wp2_with fail
                  go_roundw
                  case rel => exact ⟨p + 1, by omega, by go_num, HP2, X⟩
                  case measure => simp [intOf]; omega
            · obtain rfl : p = n := by omega
              have HJ2 : Hid (∀ j' p' q', i ≤ j' → j' < j + 1 → p' ≤ q' → q' < p → kpAt os hs l m i j' p' q') := Lib.hid (fun j' p' q' g1 g2 g3 g4 => by
                by_cases e : j' = j
                · subst e; exact HP.out p' q' (by omega) g3 g4
                · exact HJ.out j' p' q' g1 (by omega) g3 g4)
              have hpp : ¬ ((p : Int) < p) := by omega
              go_wp2_with fail
              go_roundw
              case rel => exact ⟨j + 1, by omega, by omega, by go_num, HJ2, X⟩
              case measure => simp [intOf]; omega
        · obtain rfl : j = n := by omega
          have HI2 : Hid (∀ i' j' p q, i' < i + 1 → i' ≤ j' → j' < j → p ≤ q → q < j → kpAt os hs l m i' j' p q) := Lib.hid (fun i' j' p' q' g1 g2 g3 g4 g5 => by
            by_cases e : i' = i
            · subst e; exact HJ.out j' p' q' g2 g3 g4 g5
            · exact HI.out i' j' p' q' (by omega) g2 g3 g4 g5)
          go_wp2_with fail
          go_roundw
          case rel => exact ⟨i + 1, by omega, by go_num, HI2, X⟩
          case measure => simp [intOf]; omega
    · obtain rfl : i = n := by omega
      have hr : r = true := HLE.out (fun i' j' p' q' g1 g2 g3 g4 => HI.out i' j' p' q' (by omega) g1 g2 g3 g4)
      go_wp2_with fail
      go_ret
      exact ⟨by rw [hr]; rfl, X.bel⟩
end Go.Proofs.Ytokpgbpdmfibjaa
