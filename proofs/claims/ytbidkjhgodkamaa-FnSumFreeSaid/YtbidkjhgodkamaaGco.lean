/-
Contracts of both sides' GroupColoring: colors of the elements but 0 so that each color is free of sums. Conditions: lengths at most 2000000.
-/
import Derived.Test.YtbidkjhgodkamaaSfr
import Derived.Test.YtbidkjhgodkamaaCol
import Derived.Deep.QuietTactic
import Derived.BigQuiet
namespace Go.Proofs.Ytbidkjhgodkamaa
open Go.RowKit Go.ChangeShapes
set_option linter.unusedVariables false

/-- The color at a place. -/
def cv (c : List Int) (i : Nat) : Int := c.getD i 0
theorem cv_at {c : List Int} {i : Nat} (h : i < c.length) : c[i] = cv c i := by simp [cv, List.getD, h]
/-- Two elements and their sum are not of one color. -/
def gcAt (os c : List Int) (i j : Nat) : Prop := gadd os (i + 1) (j + 1) ≠ 0 → ¬ (cv c i = cv c j ∧ cv c i = cv c (gadd os (i + 1) (j + 1) - 1))
def gcP (os c : List Int) : Prop := ∀ i j, i ≤ j → j + 1 < gn os → gcAt os c i j
open Classical in
noncomputable def gcB (os c : List Int) : Bool := grpB os && (decide (c.length + 1 = gn os) && (allB c 4 && decide (gcP os c)))
/-- The elements of one color among the first ones. -/
def colS (c : List Int) (k : Int) : Nat → Nat
  | 0 => 0
  | i + 1 => if cv c i = k then colS c k i ||| 2 ^ (i + 1) else colS c k i
theorem colS_bit (c : List Int) (k : Int) (p : Nat) : ∀ i, (colS c k i).testBit p = true ↔ ∃ q, q < i ∧ p = q + 1 ∧ cv c q = k
  | 0 => by simp [colS]
  | i + 1 => by
    unfold colS
    split
    · rename_i h
      rw [Nat.testBit_or, Nat.testBit_two_pow, Bool.or_eq_true, colS_bit c k p i, decide_eq_true_eq]
      constructor
      · rintro (⟨q, h1, h2, h3⟩ | h1)
        · exact ⟨q, by omega, h2, h3⟩
        · exact ⟨i, by omega, h1.symm, h⟩
      · rintro ⟨q, h1, h2, h3⟩
        by_cases e : q = i
        · subst e; exact .inr h2.symm
        · exact .inl ⟨q, by omega, h2, h3⟩
    · rename_i h
      rw [colS_bit c k p i]
      constructor
      · rintro ⟨q, h1, h2, h3⟩; exact ⟨q, by omega, h2, h3⟩
      · rintro ⟨q, h1, h2, h3⟩
        by_cases e : q = i
        · subst e; exact absurd h3 h
        · exact ⟨q, by omega, h2, h3⟩
theorem colS_lt (c : List Int) (k : Int) {n : Nat} : ∀ i, i < n → colS c k i < 2 ^ n
  | 0, h => Nat.two_pow_pos n
  | i + 1, h => by
    unfold colS
    split
    · exact Nat.or_lt_two_pow (colS_lt c k i (by omega)) (Nat.pow_lt_pow_right (by decide) h)
    · exact colS_lt c k i (by omega)
theorem free_iff {os : List Int} {a : Nat} (ha : a < 18446744073709551616) : freeB os a = true ↔ ∀ p q, a.testBit p = true → a.testBit q = true → a.testBit (gadd os p q) = true → False := by
  unfold freeB
  rw [and_eq0]
  constructor
  · intro h p q hp hq hs
    exact h _ ((sumS_iff ha ha _).2 ⟨p, q, hp, hq, rfl⟩) hs
  · intro h i h1 h2
    obtain ⟨p, q, hp, hq, rfl⟩ := (sumS_iff ha ha i).1 h1
    exact h p q hp hq h2
theorem allB_cv {c : List Int} (h : allB c 4 = true) {i : Nat} (hi : i < c.length) : 0 ≤ cv c i ∧ cv c i ≤ 3 := by
  unfold allB at h
  rw [List.all_eq_true] at h
  have := inB_true.1 (h _ (List.getElem_mem hi))
  rw [cv_at hi] at this
  omega
theorem gc_free {os c : List Int} (hg : grpB os = true) (hl : c.length + 1 = gn os) (hc : allB c 4 = true) : gcP os c ↔ ∀ k : Nat, k < 4 → freeB os (colS c (k : Int) c.length) = true := by
  obtain ⟨g2, g3, g4, g5, g6⟩ := grp_gn hg
  have hb : ∀ k : Int, colS c k c.length < 18446744073709551616 := fun k => by
    have h1 := colS_lt c k (n := 24) c.length (by omega)
    have e : (2 : Nat) ^ 24 = 16777216 := by decide
    omega
  constructor
  · intro H k _
    rw [free_iff (hb _)]
    intro p q hp hq hs
    obtain ⟨i, h1, rfl, h3⟩ := (colS_bit c _ p _).1 hp
    obtain ⟨j, h4, rfl, h6⟩ := (colS_bit c _ q _).1 hq
    obtain ⟨s, h7, h8, h9⟩ := (colS_bit c _ _ _).1 hs
    rcases Nat.le_total i j with hij | hij
    · exact H i j hij (by omega) (by omega) ⟨by rw [h3, h6], by rw [h8, h3, Nat.add_sub_cancel, h9]⟩
    · rw [gadd_comm] at h8
      exact H j i hij (by omega) (by omega) ⟨by rw [h3, h6], by rw [h8, h6, Nat.add_sub_cancel, h9]⟩
  · intro H i j hij hj hz ⟨h1, h2⟩
    obtain ⟨k1, k2⟩ := allB_cv hc (show i < c.length by omega)
    obtain ⟨k, hk⟩ := Int.eq_ofNat_of_zero_le k1
    have hzl := gadd_lt' g2 (i + 1) (j + 1)
    have := H k (by omega)
    rw [free_iff (hb _)] at this
    refine this (i + 1) (j + 1) ((colS_bit c _ _ _).2 ⟨i, by omega, rfl, hk⟩) ((colS_bit c _ _ _).2 ⟨j, by omega, rfl, by rw [← h1, hk]⟩) ((colS_bit c _ _ _).2 ⟨gadd os (i + 1) (j + 1) - 1, by omega, by omega, by rw [← h2, hk]⟩)

set_option maxRecDepth 20000 in
set_option maxHeartbeats 3200000 in
theorem gco_impl (a0 : Option Addr) (c0 : Nat) (os : List Int) (a1 : Option Addr) (c1 : Nat) (cs : List Int) (w : World) (h0 : Ints w a0 c0 os) (k0 : Ints w a1 c1 cs) (hl : os.length ≤ 2000000) (hlc : cs.length ≤ 2000000) :
    Calls Try.prog 107 #[.agg #[.slice a0 os.length c0], .slice a1 cs.length c1] w fun e w' => e = .returned (.bool (gcB os cs)) ∧ Below w.heap.size w w' := by
  have hb0 := (Below.refl w.heap.size w).alloc (Nat.le_refl _) (.cells #[.slice a0 os.length c0] 26)
  have h1 := h0.below hb0 (Nat.le_refl _)
  have k1 := k0.below hb0 (Nat.le_refl _)
  have C := Lib.hid (fun w h => isGroup_impl a0 c0 os w h hl)
  cases hg0 : grpB os with
  | false =>
    have e : gcB os cs = false := by simp [gcB, hg0]
    rw [e]
    rw [hg0] at C
    clear hg0 e
    go_enter Try.func107, Try.ntmps107
    go_wp2_with fail
    refine (C.out _ h1).mono ?_; rintro e w1 ⟨rfl, b1⟩
    go_wp2_with fail
    go_ret
    exact ⟨rfl, nx hb0 b1⟩
  | true =>
    obtain ⟨g2, g3, g4, g5, g6⟩ := grp_gn hg0
    have C2 := Lib.hid (fun w h => orderOf_impl a0 c0 os w h hl)
    rw [show ordV os = gord os by simp [ordV, hg0], ← g5] at C2
    rw [hg0] at C
    by_cases hlen : cs.length + 1 = gn os
    · have C3 := Lib.hid (fun w h => colors_any a1 c1 cs 4 24 w h hlc (by omega) (by omega))
      have e24 : decide ((cs.length : Int) ≤ 24) = true := by simp; omega
      simp only [e24, Bool.and_true] at C3
      cases hcol : allB cs 4 with
      | false =>
        have e : gcB os cs = false := by simp [gcB, hcol]
        rw [e]
        rw [hcol] at C3
        obtain ⟨N, hN⟩ : ∃ N, N = gn os := ⟨_, rfl⟩
        rw [← hN] at C2 hlen g4
        have hne : ((cs.length : Int) != IntKind.i64.wrap ((N : Int) - 1)) = false := by rw [wrap_in (by omega) (by omega)]; simp; omega
        have hne2 : ((cs.length : Int) != (N : Int) - 1) = false := by simp; omega
        clear hcol e g2 g3 g5 g6 hN hg0 e24
        go_enter Try.func107, Try.ntmps107
        go_wp2_with fail
        refine (C.out _ h1).mono ?_; rintro e w1 ⟨rfl, b1⟩
        have q1 := box_cell b1 (by simp)
        have h2 := h1.below b1 (Nat.le_refl _)
        have k2 := k1.below b1 (Nat.le_refl _)
        have hb1 := nx hb0 b1
        go_wp2_with fail
        refine (C2.out _ h2).mono ?_; rintro e w2 ⟨rfl, b2⟩
        have k3 := k2.below b2 (Nat.le_refl _)
        go_wp2_with fail
        refine (C3.out _ k3).mono ?_; rintro e w' ⟨rfl, rfl⟩
        go_wp2_with fail
        go_ret
        exact ⟨rfl, nx hb1 b2⟩
      | true =>
        have e : ∃ r, gcB os cs = r ∧ ((gcP os cs ∧ r = true) ∨ (¬ gcP os cs ∧ r = false)) := by
          by_cases hp : gcP os cs
          · exact ⟨true, by simp [gcB, hg0, hlen, hcol, hp], .inl ⟨hp, rfl⟩⟩
          · exact ⟨false, by simp [gcB, hp], .inr ⟨hp, rfl⟩⟩
        obtain ⟨r, hr0, hr⟩ := e
        rw [hr0]
        rw [hcol] at C3
        have HR := Lib.hid hr
        have CA := Lib.hid (fun x y w h hx hy => add_any a0 c0 os x y w h hg0 hx hy)
        have HZ := Lib.hid (fun x y => gadd_lt' g2 x y)
        obtain ⟨N, hN⟩ : ∃ N, N = gn os := ⟨_, rfl⟩
        rw [← hN] at C2 hlen g3 g4 HZ
        have HN := Lib.hid hN
        have hne : ((cs.length : Int) != IntKind.i64.wrap ((N : Int) - 1)) = false := by rw [wrap_in (by omega) (by omega)]; simp; omega
        have hne2 : ((cs.length : Int) != (N : Int) - 1) = false := by simp; omega
        have HCS := Lib.hid k0.2.2.2.2
        have hlN : cs.length + 1 ≤ N ∧ N ≤ cs.length + 1 := by omega
        clear hcol g2 g5 g6 hN hg0 e24 hr hr0
        go_enter Try.func107, Try.ntmps107
        go_wp2_with fail
        refine (C.out _ h1).mono ?_; rintro e w1 ⟨rfl, b1⟩
        have q1 := box_cell b1 (by simp)
        have z1 : w.heap.size < w1.heap.size := by have := b1.size; simp at this; omega
        have h2 := h1.below b1 (Nat.le_refl _)
        have k2 := k1.below b1 (Nat.le_refl _)
        have hb1 := nx hb0 b1
        go_wp2_with fail
        refine (C2.out _ h2).mono ?_; rintro e w2 ⟨rfl, b2⟩
        have k3 := k2.below b2 (Nat.le_refl _)
        have q2 := (b2.cell (p := ⟨w.heap.size, 0, none⟩) z1).trans q1
        have z2 := Nat.lt_of_lt_of_le z1 b2.size
        have hb2 := nx hb1 b2
        go_wp2_with fail
        refine (C3.out _ k3).mono ?_; rintro e w' ⟨rfl, rfl⟩
        clear b1 b2 q1 z1 h1 h2 k1 k2 k3 hb0 hb1 k0 hne hne2 C C3 hlen
        go_wp2_with fail
        go_loopw [5] (fun vx wr => ∃ i : Nat, i + 1 ≤ N ∧ vx = .int .i64 ((i : Int) + 1) ∧ Hid (∀ i' j, i' < i → i' ≤ j → j + 1 < N → gcAt os cs i' j) ∧ Below w.heap.size w wr ∧ wr.cell? ⟨w.heap.size, 0, none⟩ = some (.slice a0 os.length c0) ∧ w.heap.size < wr.heap.size) (fun x _ => (N + 1 - intOf x).toNat)
        case atStart => exact ⟨0, by omega, rfl, Lib.hid (fun _ _ h => by omega), hb2, q2, z2⟩
        case round =>
          clear hb2 q2 z2
          obtain ⟨i, hi, rfl, HI, hbel, q3, z3⟩ := hrel
          have h3 := h0.below hbel (Nat.le_refl _)
          by_cases hlt : i + 1 < N
          · have hltb : decide ((i : Int) + 1 < (N : Int)) = true := by simp; omega
            go_wp2_with fail
            refine (C2.out _ h3).mono ?_; rintro e w3 ⟨rfl, b3⟩
            have hb3 := nx hbel b3
            have q4 := (b3.cell (p := ⟨w.heap.size, 0, none⟩) z3).trans q3
            have z4 := Nat.lt_of_lt_of_le z3 b3.size
            clear b3 q3 z3 h3 hbel
            go_wp2_with fail
            go_loopw [6] (fun vy wr => ∃ j : Nat, i ≤ j ∧ j + 1 ≤ N ∧ vy = .int .i64 ((j : Int) + 1) ∧ Hid (∀ j', i ≤ j' → j' < j → gcAt os cs i j') ∧ Below w.heap.size w wr ∧ wr.cell? ⟨w.heap.size, 0, none⟩ = some (.slice a0 os.length c0) ∧ w.heap.size < wr.heap.size) (fun x _ => (N + 1 - intOf x).toNat)
            case atStart => exact ⟨i, by omega, by omega, rfl, Lib.hid (fun _ _ h => by omega), hb3, q4, z4⟩
            case round =>
              clear hb3 q4 z4
              obtain ⟨j, hij, hj, rfl, HJ, hbel, q3, z3⟩ := hrel
              have h3 := h0.below hbel (Nat.le_refl _)
              by_cases hlj : j + 1 < N
              · rcases HCS.out with hcs | ⟨b, off, rfl, hbB, hcell⟩
                · subst hcs; simp at hlN; omega
                · have hzl := HZ.out (i + 1) (j + 1)
                  have CZ := Lib.hid (fun w h => CA.out (i + 1) (j + 1) w h (by omega) (by omega))
                  rw [show ((i + 1 : Nat) : Int) = (i : Int) + 1 by omega, show ((j + 1 : Nat) : Int) = (j : Int) + 1 by omega] at CZ
                  have d1 : w.cell? ⟨b, off + i, none⟩ = some (.int .i64 (cv cs i)) := by rw [hcell i (by omega), cv_at]
                  have d2 : w.cell? ⟨b, off + j, none⟩ = some (.int .i64 (cv cs j)) := by rw [hcell j (by omega), cv_at]
                  have HAT : Hid (gcAt os cs i j ↔ (gadd os (i + 1) (j + 1) ≠ 0 → ¬ (cv cs i = cv cs j ∧ cv cs i = cv cs (gadd os (i + 1) (j + 1) - 1)))) := Lib.hid Iff.rfl
                  have d3 : gadd os (i + 1) (j + 1) ≠ 0 → w.cell? ⟨b, off + (gadd os (i + 1) (j + 1) - 1), none⟩ = some (.int .i64 (cv cs (gadd os (i + 1) (j + 1) - 1))) := fun h => by rw [hcell _ (by omega), cv_at]
                  have HNX : Hid (gcAt os cs i j → ∀ j', i ≤ j' → j' < j + 1 → gcAt os cs i j') := Lib.hid (fun h j' g1 g2 => by
                    by_cases e : j' = j
                    · subst e; exact h
                    · exact HJ.out j' g1 (by omega))
                  have HNO : Hid (¬ gcAt os cs i j → r = false) := Lib.hid (fun h => by
                    rcases HR.out with ⟨hp, _⟩ | ⟨_, e⟩
                    · exact absurd (hp i j hij (by rw [← HN.out]; exact hlj)) h
                    · exact e)
                  obtain ⟨Z, hZ⟩ : ∃ Z, Z = gadd os (i + 1) (j + 1) := ⟨_, rfl⟩
                  rw [← hZ] at hzl CZ HAT d3
                  obtain ⟨u, hu⟩ : ∃ u, u = cv cs i := ⟨_, rfl⟩
                  obtain ⟨v, hv⟩ : ∃ v, v = cv cs j := ⟨_, rfl⟩
                  obtain ⟨t, ht⟩ : ∃ t, t = cv cs (Z - 1) := ⟨_, rfl⟩
                  rw [← hu] at d1 HAT
                  rw [← hv] at d2 HAT
                  rw [← ht] at d3 HAT
                  have HD1 := Lib.hid d1
                  have HD2 := Lib.hid d2
                  have HD3 := Lib.hid d3
                  clear hZ hu hv ht hcell d1 d2 d3
                  go_wp2_with fail
                  refine (C2.out _ h3).mono ?_; rintro e w3 ⟨rfl, b3⟩
                  have hb3 := nx hbel b3
                  have q4 := (b3.cell (p := ⟨w.heap.size, 0, none⟩) z3).trans q3
                  have z4 := Nat.lt_of_lt_of_le z3 b3.size
                  have h4 := h3.below b3 (Nat.le_refl _)
                  clear b3 q3 z3 h3 hbel
                  go_wp2_with fail
                  refine (CZ.out _ h4).mono ?_; rintro e w4 ⟨rfl, b4⟩
                  have hb4 := nx hb3 b4
                  have q5 := (b4.cell (p := ⟨w.heap.size, 0, none⟩) z4).trans q4
                  have z5 := Nat.lt_of_lt_of_le z4 b4.size
                  have c1 := (hb4.cell (p := ⟨b, off + i, none⟩) hbB).trans HD1.out
                  have c2 := (hb4.cell (p := ⟨b, off + j, none⟩) hbB).trans HD2.out
                  have hic : (i : Int) < cs.length := by omega
                  have hjc : (j : Int) < cs.length := by omega
                  have w1' : IntKind.i64.wrap (i : Int) = i := wrap_in (by omega) (by omega)
                  have w2' : IntKind.i64.wrap (j : Int) = j := wrap_in (by omega) (by omega)
                  clear b4 q4 z4 h4 hb3
                  by_cases hz : Z = 0
                  · have f1 : ((Z : Int) != 0) = false := by simp; omega
                    have HJ2 := Lib.hid (HNX.out (HAT.out.2 (fun h => absurd hz h)))
                    clear HAT HNX HNO HJ hz
                    go_wp2_with fail
                    go_quiet (fail)
                    go_wp2_with fail
                    go_roundw
                    case rel => exact ⟨j + 1, by omega, by omega, by go_num, HJ2, below_drewN hb4 _, q5, z5⟩
                    case measure => simp [intOf]; omega
                  · have f1 : ((Z : Int) != 0) = true := by simp; omega
                    have c3 := (hb4.cell (p := ⟨b, off + (Z - 1), none⟩) hbB).trans (HD3.out hz)
                    have w3' : IntKind.i64.wrap ((Z : Int) - 1) = ((Z - 1 : Nat) : Int) := by rw [wrap_in (by omega) (by omega)]; omega
                    have hzc : ((Z - 1 : Nat) : Int) < cs.length := by omega
                    by_cases huv : u = v
                    · subst huv
                      by_cases hut : u = t
                      · subst hut
                        have e := HNO.out (fun h => HAT.out.1 h hz ⟨rfl, rfl⟩)
                        subst e
                        clear HAT HNX HNO HJ HR hz
                        go_wp2_with fail
                        go_quiet (fail)
                        go_wp2_with fail
                        go_ret
                        exact ⟨rfl, below_drewN hb4 _⟩
                      · have f3 : (u == t) = false := by simpa using hut
                        have HJ2 := Lib.hid (HNX.out (HAT.out.2 (fun _ h => hut h.2)))
                        clear HAT HNX HNO HJ hz hut
                        go_wp2_with fail
                        go_quiet (fail)
                        go_wp2_with fail
                        go_roundw
                        case rel => exact ⟨j + 1, by omega, by omega, by go_num, HJ2, below_drewN hb4 _, q5, z5⟩
                        case measure => simp [intOf]; omega
                    · have f2 : (u == v) = false := by simpa using huv
                      have HJ2 := Lib.hid (HNX.out (HAT.out.2 (fun _ h => huv h.1)))
                      clear HAT HNX HNO HJ hz huv
                      go_wp2_with fail
                      go_quiet (fail)
                      go_wp2_with fail
                      go_roundw
                      case rel => exact ⟨j + 1, by omega, by omega, by go_num, HJ2, below_drewN hb4 _, q5, z5⟩
                      case measure => simp [intOf]; omega
              · have HI2 : Hid (∀ i' j, i' < i + 1 → i' ≤ j → j + 1 < N → gcAt os cs i' j) := Lib.hid (fun i' j' g1 g2 g3 => by
                  by_cases e : i' = i
                  · subst e; exact HJ.out j' g2 (by omega)
                  · exact HI.out i' j' (by omega) g2 g3)
                clear HI HJ
                go_wp2_with fail
                refine (C2.out _ h3).mono ?_; rintro e w3 ⟨rfl, b3⟩
                have hb3 := nx hbel b3
                have q4 := (b3.cell (p := ⟨w.heap.size, 0, none⟩) z3).trans q3
                have z4 := Nat.lt_of_lt_of_le z3 b3.size
                clear b3 q3 z3 h3 hbel
                go_wp2_with fail
                go_roundw
                case rel => exact ⟨i + 1, by omega, by go_num, HI2, hb3, q4, z4⟩
                case measure => simp [intOf]; omega
          · have e : r = true := by
              rcases HR.out with ⟨_, e⟩ | ⟨hp, _⟩
              · exact e
              · exact absurd (fun i' j' g1 g2 => HI.out i' j' (by rw [← HN.out] at g2; omega) g1 (by rw [HN.out]; exact g2)) hp
            subst e
            clear HI HR HCS
            go_wp2_with fail
            refine (C2.out _ h3).mono ?_; rintro e w3 ⟨rfl, b3⟩
            go_wp2_with fail
            go_ret
            exact ⟨rfl, nx hbel b3⟩
    · have e : gcB os cs = false := by simp [gcB, hlen]
      rw [e]
      obtain ⟨N, hN⟩ : ∃ N, N = gn os := ⟨_, rfl⟩
      rw [← hN] at C2 hlen g3 g4
      have hmx : cs.length ≤ 2000000 := hlc
      have hne : ((cs.length : Int) != IntKind.i64.wrap ((N : Int) - 1)) = true := by rw [wrap_in (by omega) (by omega)]; simp; omega
      have hne2 : ((cs.length : Int) != (N : Int) - 1) = true := by simp; omega
      clear e g2 g5 g6 hN hg0 hlen
      go_enter Try.func107, Try.ntmps107
      go_wp2_with fail
      refine (C.out _ h1).mono ?_; rintro e w1 ⟨rfl, b1⟩
      have q1 := box_cell b1 (by simp)
      have h2 := h1.below b1 (Nat.le_refl _)
      have hb1 := nx hb0 b1
      go_wp2_with fail
      refine (C2.out _ h2).mono ?_; rintro e w2 ⟨rfl, b2⟩
      go_wp2_with fail
      go_ret
      exact ⟨rfl, nx hb1 b2⟩

set_option maxRecDepth 20000 in
set_option maxHeartbeats 3200000 in
theorem gco_spec (a0 : Option Addr) (c0 : Nat) (os : List Int) (a1 : Option Addr) (c1 : Nat) (cs : List Int) (w : World) (h0 : Ints w a0 c0 os) (k0 : Ints w a1 c1 cs) (hl : os.length ≤ 2000000) (hlc : cs.length ≤ 2000000) :
    Calls Try.prog 109 #[.agg #[.slice a0 os.length c0], .slice a1 cs.length c1] w fun e w' => e = .returned (.bool (gcB os cs)) ∧ Below w.heap.size w w' := by
  have hb0 := (Below.refl w.heap.size w).alloc (Nat.le_refl _) (.cells #[.slice a0 os.length c0] 26)
  have h1 := h0.below hb0 (Nat.le_refl _)
  have k1 := k0.below hb0 (Nat.le_refl _)
  have C := Lib.hid (fun w h => isGroup_spec a0 c0 os w h hl)
  cases hg0 : grpB os with
  | false =>
    have e : gcB os cs = false := by simp [gcB, hg0]
    rw [e]
    rw [hg0] at C
    clear hg0 e
    go_enter Try.func109, Try.ntmps109
    go_wp2_with fail
    refine (C.out _ h1).mono ?_; rintro e w1 ⟨rfl, b1⟩
    go_wp2_with fail
    go_ret
    exact ⟨rfl, nx hb0 b1⟩
  | true =>
    obtain ⟨g2, g3, g4, g5, g6⟩ := grp_gn hg0
    have C2 := Lib.hid (fun w h => l2Order_any a0 c0 os w h hg0)
    rw [← g5] at C2
    rw [hg0] at C
    by_cases hlen : cs.length + 1 = gn os
    · have C3 := Lib.hid (fun w h => isColoring_spec a1 c1 cs 4 w h hlc)
      have e24 : colB cs 4 = allB cs 4 := by
        have e1 : decide ((cs.length : Int) ≤ 40) = true := by simp; omega
        have e2 : inB 4 1 4 = true := rfl
        rw [colB, e1, e2]; simp
      rw [e24] at C3
      cases hcol : allB cs 4 with
      | false =>
        have e : gcB os cs = false := by simp [gcB, hcol]
        rw [e]
        rw [hcol] at C3
        obtain ⟨N, hN⟩ : ∃ N, N = gn os := ⟨_, rfl⟩
        rw [← hN] at C2 hlen g4
        have hne : ((cs.length : Int) != IntKind.i64.wrap ((N : Int) - 1)) = false := by rw [wrap_in (by omega) (by omega)]; simp; omega
        have hne2 : ((cs.length : Int) != (N : Int) - 1) = false := by simp; omega
        clear hcol e g2 g3 g5 g6 hN hg0 e24
        go_enter Try.func109, Try.ntmps109
        go_wp2_with fail
        refine (C.out _ h1).mono ?_; rintro e w1 ⟨rfl, b1⟩
        have q1 := box_cell b1 (by simp)
        have h2 := h1.below b1 (Nat.le_refl _)
        have k2 := k1.below b1 (Nat.le_refl _)
        have hb1 := nx hb0 b1
        go_wp2_with fail
        refine (C2.out _ h2).mono ?_; rintro e w2 ⟨rfl, b2⟩
        have k3 := k2.below b2 (Nat.le_refl _)
        go_wp2_with fail
        refine (C3.out _ k3).mono ?_; rintro e w' ⟨rfl, rfl⟩
        go_wp2_with fail
        go_ret
        exact ⟨rfl, nx hb1 b2⟩
      | true =>
        have hgf := gc_free hg0 hlen hcol
        have e : ∃ r, gcB os cs = r ∧ (((∀ k : Nat, k < 4 → freeB os (colS cs (k : Int) cs.length) = true) ∧ r = true) ∨ (¬ (∀ k : Nat, k < 4 → freeB os (colS cs (k : Int) cs.length) = true) ∧ r = false)) := by
          by_cases hp : gcP os cs
          · exact ⟨true, by simp [gcB, hg0, hlen, hcol, hp], .inl ⟨hgf.1 hp, rfl⟩⟩
          · exact ⟨false, by simp [gcB, hp], .inr ⟨fun h => hp (hgf.2 h), rfl⟩⟩
        obtain ⟨r, hr0, hr⟩ := e
        rw [hr0]
        rw [hcol] at C3
        have HR := Lib.hid hr
        have CF := Lib.hid (fun a w h ha => l21Free_any a0 c0 os a w h hg0 ha)
        obtain ⟨N, hN⟩ : ∃ N, N = gn os := ⟨_, rfl⟩
        rw [← hN] at C2 hlen g3 g4
        have hne : ((cs.length : Int) != IntKind.i64.wrap ((N : Int) - 1)) = false := by rw [wrap_in (by omega) (by omega)]; simp; omega
        have hne2 : ((cs.length : Int) != (N : Int) - 1) = false := by simp; omega
        have HCS := Lib.hid k0.2.2.2.2
        have hl24 : cs.length < 24 := by omega
        have HS24 := Lib.hid (fun k i (hi : i ≤ cs.length) => (show colS cs k i < 16777216 from by
          have h := colS_lt cs k (n := 24) i (by omega)
          have e : (2 : Nat) ^ 24 = 16777216 := by decide
          omega))
        clear hcol g2 g5 g6 hN hg0 e24 hr hr0 hgf
        go_enter Try.func109, Try.ntmps109
        go_wp2_with fail
        refine (C.out _ h1).mono ?_; rintro e w1 ⟨rfl, b1⟩
        have q1 := box_cell b1 (by simp)
        have z1 : w.heap.size < w1.heap.size := by have := b1.size; simp at this; omega
        have h2 := h1.below b1 (Nat.le_refl _)
        have k2 := k1.below b1 (Nat.le_refl _)
        have hb1 := nx hb0 b1
        go_wp2_with fail
        refine (C2.out _ h2).mono ?_; rintro e w2 ⟨rfl, b2⟩
        have k3 := k2.below b2 (Nat.le_refl _)
        have q2 := (b2.cell (p := ⟨w.heap.size, 0, none⟩) z1).trans q1
        have z2 := Nat.lt_of_lt_of_le z1 b2.size
        have hb2 := nx hb1 b2
        go_wp2_with fail
        refine (C3.out _ k3).mono ?_; rintro e w' ⟨rfl, rfl⟩
        clear b1 b2 q1 z1 h1 h2 k1 k2 k3 hb0 hb1 k0 hne hne2 C C3 C2 hlen
        go_wp2_with fail
        go_loopw [5] (fun vk wr => ∃ k : Nat, k ≤ 4 ∧ vk = .int .i64 (k : Int) ∧ Hid (∀ k' : Nat, k' < k → freeB os (colS cs (k' : Int) cs.length) = true) ∧ Below w.heap.size w wr ∧ wr.cell? ⟨w.heap.size, 0, none⟩ = some (.slice a0 os.length c0) ∧ w.heap.size < wr.heap.size) (fun x _ => (5 - intOf x).toNat)
        case atStart => exact ⟨0, by omega, rfl, Lib.hid (fun _ h => by omega), hb2, q2, z2⟩
        case round =>
          clear hb2 q2 z2
          obtain ⟨k, hk, rfl, HI, hbel, q3, z3⟩ := hrel
          have h3 := h0.below hbel (Nat.le_refl _)
          by_cases hlt : k < 4
          · have hltb : decide ((k : Int) < 4) = true := by simp; omega
            obtain ⟨wo, rfl⟩ : ∃ wo : World, wo = wr := ⟨_, rfl⟩
            go_wp2_with fail
            go_loop [6, 7] (fun va vi => ∃ i : Nat, i ≤ cs.length ∧ vi = .int .i64 (i : Int) ∧ va = .int .i64 ((colS cs (k : Int) i : Nat) : Int)) (fun _ x => (cs.length - intOf x).toNat)
            case atStart => exact ⟨0, by omega, rfl, by simp [colS]⟩
            case round =>
              obtain ⟨i, hi, rfl, rfl⟩ := hrel
              have hs24 := HS24.out (k : Int) i hi
              by_cases hlc : i < cs.length
              · rcases HCS.out with hcs | ⟨b, off, rfl, hbB, hcell⟩
                · subst hcs; simp at hlc
                · have d1 : wo.cell? ⟨b, off + i, none⟩ = some (.int .i64 (cv cs i)) := (hbel.cell (p := ⟨b, off + i, none⟩) hbB).trans (by rw [hcell i (by omega), cv_at])
                  have hst : colS cs (k : Int) (i + 1) = if cv cs i = (k : Int) then colS cs (k : Int) i ||| 2 ^ (i + 1) else colS cs (k : Int) i := rfl
                  obtain ⟨s, hs⟩ : ∃ s, s = colS cs (k : Int) i := ⟨_, rfl⟩
                  rw [← hs] at hst hs24 ⊢
                  obtain ⟨T, hT, hT1, hw, hor⟩ := or_one s (i + 1) hs24 (by omega)
                  rw [← hT] at hst
                  obtain ⟨u, hu⟩ : ∃ u, u = cv cs i := ⟨_, rfl⟩
                  rw [← hu] at d1 hst
                  have hic : (i : Int) < cs.length := by omega
                  by_cases huk : u = (k : Int)
                  · have f1 : (u == (k : Int)) = true := by simpa using huk
                    rw [if_pos huk] at hst
                    have HST := Lib.hid hst
                    clear hst hs hT hu huk hcell
                    go_wp2_with fail
                    go_round
                    case rel => exact ⟨i + 1, by omega, by go_num, by rw [HST.out]⟩
                    case measure => simp [intOf]; omega
                  · have f1 : (u == (k : Int)) = false := by simpa using huk
                    rw [if_neg huk] at hst
                    have HST := Lib.hid hst
                    clear hst hs hT hu huk hcell
                    go_wp2_with fail
                    go_round
                    case rel => exact ⟨i + 1, by omega, by go_num, by rw [HST.out]⟩
                    case measure => simp [intOf]; omega
              · obtain rfl : i = cs.length := by omega
                have CK := Lib.hid (CF.out (colS cs (k : Int) cs.length) wo h3 hs24)
                have HNX : Hid (freeB os (colS cs (k : Int) cs.length) = true → ∀ k' : Nat, k' < k + 1 → freeB os (colS cs (k' : Int) cs.length) = true) := Lib.hid (fun h k' g => by
                  by_cases e : k' = k
                  · subst e; exact h
                  · exact HI.out k' (by omega))
                have HNO : Hid (freeB os (colS cs (k : Int) cs.length) = false → r = false) := Lib.hid (fun h => by
                  rcases HR.out with ⟨hp, _⟩ | ⟨_, e⟩
                  · have := hp k hlt
                    rw [h] at this; cases this
                  · exact e)
                obtain ⟨s, hs⟩ : ∃ s, s = colS cs (k : Int) cs.length := ⟨_, rfl⟩
                rw [← hs] at hs24 CK HNX HNO ⊢
                clear hs HI
                cases hf : freeB os s with
                | true =>
                  rw [hf] at CK
                  have HI2 := Lib.hid (HNX.out hf)
                  clear hf HNX HNO
                  go_wp2_with fail
                  refine CK.out.mono ?_; rintro e w3 ⟨rfl, b3⟩
                  have hb3 := nx hbel b3
                  have q4 := (b3.cell (p := ⟨w.heap.size, 0, none⟩) z3).trans q3
                  have z4 := Nat.lt_of_lt_of_le z3 b3.size
                  clear b3 q3 z3 h3 hbel
                  go_wp2_with fail
                  go_roundw
                  case rel => exact ⟨k + 1, by omega, by go_num, HI2, hb3, q4, z4⟩
                  case measure => simp [intOf]; omega
                | false =>
                  rw [hf] at CK
                  have e := HNO.out hf
                  subst e
                  clear hf HNX HNO HR
                  go_wp2_with fail
                  refine CK.out.mono ?_; rintro e w3 ⟨rfl, b3⟩
                  go_wp2_with fail
                  go_ret
                  exact ⟨rfl, nx hbel b3⟩
          · obtain rfl : k = 4 := by omega
            have e : r = true := by
              rcases HR.out with ⟨_, e⟩ | ⟨hp, _⟩
              · exact e
              · exact absurd HI.out hp
            subst e
            clear HI HR HCS
            go_wp2_with fail
            go_ret
            exact ⟨rfl, hbel⟩
    · have e : gcB os cs = false := by simp [gcB, hlen]
      rw [e]
      obtain ⟨N, hN⟩ : ∃ N, N = gn os := ⟨_, rfl⟩
      rw [← hN] at C2 hlen g3 g4
      have hmx : cs.length ≤ 2000000 := hlc
      have hne : ((cs.length : Int) != IntKind.i64.wrap ((N : Int) - 1)) = true := by rw [wrap_in (by omega) (by omega)]; simp; omega
      have hne2 : ((cs.length : Int) != (N : Int) - 1) = true := by simp; omega
      clear e g2 g5 g6 hN hg0 hlen
      go_enter Try.func109, Try.ntmps109
      go_wp2_with fail
      refine (C.out _ h1).mono ?_; rintro e w1 ⟨rfl, b1⟩
      have q1 := box_cell b1 (by simp)
      have h2 := h1.below b1 (Nat.le_refl _)
      have hb1 := nx hb0 b1
      go_wp2_with fail
      refine (C2.out _ h2).mono ?_; rintro e w2 ⟨rfl, b2⟩
      go_wp2_with fail
      go_ret
      exact ⟨rfl, nx hb1 b2⟩
end Go.Proofs.Ytbidkjhgodkamaa
