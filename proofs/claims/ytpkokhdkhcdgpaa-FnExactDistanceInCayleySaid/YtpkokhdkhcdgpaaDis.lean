/-
Contracts of both sides' DistanceInCayley. Conditions: lengths at most 2000000.
-/
import Derived.Test.YtpkokhdkhcdgpaaSto
import Derived.Test.YtpkokhdkhcdgpaaDif
namespace Go.Proofs.Ytpkokhdkhcdgpaa
open Go.RowKit Go.ChangeShapes
set_option linter.unusedVariables false

/-- A set with all sums by a. -/
def stR (os : List Int) (a s : Nat) : Nat := s ||| sumS os s a
def diG (os : List Int) (a y : Nat) : Nat → Nat → Nat → Int
  | 0, _, _ => -1
  | f + 1, s, n => if s.testBit y = true then (n : Int) else diG os a y f (stR os a s) (n + 1)
theorem diG_stuck {os : List Int} {a y s : Nat} (h : stR os a s = s) (hy : s.testBit y = false) : ∀ f n, diG os a y f s n = -1
  | 0, _ => rfl
  | f + 1, n => by
    unfold diG
    rw [if_neg (by rw [hy]; decide), h, diG_stuck h hy f]
theorem sumS_gn {os : List Int} (hg : grpB os = true) {a b : Nat} (ha : a < 18446744073709551616) (hb : b < 18446744073709551616) : sumS os a b < 2 ^ gn os := by
  apply Nat.lt_pow_two_of_testBit
  intro i hi
  cases h : (sumS os a b).testBit i with
  | false => rfl
  | true =>
    obtain ⟨p, q, _, _, e⟩ := (sumS_iff ha hb i).1 h
    have := gadd_lt' (grp_gn hg).1 p q
    omega
theorem popc_lt {s t : Nat} (ht : t < 2 ^ 64) (h : ∀ i, s.testBit i = true → t.testBit i = true) (hne : s ≠ t) : popc s < popc t := by
  have : ∃ i, s.testBit i = false ∧ t.testBit i = true := by
    apply Classical.byContradiction
    intro hno
    apply hne
    apply Nat.eq_of_testBit_eq
    intro i
    cases e1 : s.testBit i with
    | true => rw [h i e1]
    | false =>
      cases e2 : t.testBit i with
      | false => rfl
      | true => exact absurd ⟨i, e1, e2⟩ hno
  obtain ⟨i, h1, h2⟩ := this
  have hi : i < 64 := bit_lt ht h2
  have := popc_mono (a := s ||| 2 ^ i) (b := t) (fun j hj => by
    rw [Nat.testBit_or, Nat.testBit_two_pow, Bool.or_eq_true, decide_eq_true_eq] at hj
    rcases hj with hj | hj
    · exact h j hj
    · subst hj; exact h2)
  rw [popc_or h1 hi] at this
  omega
theorem popc_pos' {a : Nat} (h : a < 2 ^ 40) (h0 : 0 < a) : 0 < popc a := by
  have := popc_low a a (Nat.le_refl _) h h0
  omega
def diB (os : List Int) (a x y : Int) : Bool := conB os a && (decide (0 ≤ x ∧ x < (ordN os : Int)) && decide (0 ≤ y ∧ y < (ordN os : Int)))
def diV (os : List Int) (a x y : Int) : Int := if diB os a x y = true then diG os a.toNat y.toNat (gn os + 1) (2 ^ x.toNat) 0 else -1

set_option maxRecDepth 20000 in
set_option maxHeartbeats 3200000 in
theorem dis_impl (a0 : Option Addr) (c0 : Nat) (os : List Int) (a x y : Int) (w : World) (h0 : Ints w a0 c0 os) (hl : os.length ≤ 2000000) :
    Calls Try.prog 25 #[.agg #[.slice a0 os.length c0], .int .i64 a, .int .i64 x, .int .i64 y] w fun e w' => e = .returned (.int .i64 (diV os a x y)) ∧ Below w.heap.size w w' := by
  have hb0 := (Below.refl w.heap.size w).alloc (Nat.le_refl _) (.cells #[.slice a0 os.length c0] 27)
  have h1 := h0.below hb0 (Nat.le_refl _)
  have C := Lib.hid (fun w h => isCon_impl a0 c0 os a w h hl)
  have CX := Lib.hid (fun w h => has_any a0 c0 os x w h hl)
  have CY := Lib.hid (fun w h => has_any a0 c0 os y w h hl)
  cases hc : conB os a with
  | false =>
    have e : diV os a x y = -1 := by simp [diV, diB, hc]
    rw [e]
    rw [hc] at C
    clear hc e
    go_enter Try.func25, Try.ntmps25
    go_wp2_with fail
    refine (C.out _ h1).mono ?_; rintro e w1 ⟨rfl, b1⟩
    go_wp2_with fail
    go_ret
    exact ⟨rfl, nx hb0 b1⟩
  | true =>
    rw [hc] at C
    by_cases hx : 0 ≤ x ∧ x < (ordN os : Int)
    · rw [decide_eq_true hx] at CX
      by_cases hy : 0 ≤ y ∧ y < (ordN os : Int)
      · rw [decide_eq_true hy] at CY
        have e : diV os a x y = diG os a.toNat y.toNat (gn os + 1) (2 ^ x.toNat) 0 := by
          have : diB os a x y = true := by simp [diB, hc]; omega
          rw [diV, if_pos this]
        rw [e]
        obtain ⟨g, a, rfl, ha, _, _⟩ := conB_parts hc
        rw [ordN_grp g] at hx hy
        obtain ⟨x, rfl⟩ := Int.eq_ofNat_of_zero_le hx.1
        obtain ⟨y, rfl⟩ := Int.eq_ofNat_of_zero_le hy.1
        simp only [Int.toNat_natCast]
        obtain ⟨g2, g3, g4, g5, g6⟩ := grp_gn g
        have hT := setT_bd g
        have hxn : x < gn os := by omega
        have hyn : y < gn os := by omega
        have CS := Lib.hid (fun (s : Nat) w h hs => sum_any a0 c0 os s a w h g hs (by omega))
        
        
        have CI := Lib.hid in_any
        obtain ⟨r, hr⟩ : ∃ r, r = diG os a y (gn os + 1) (2 ^ x) 0 := ⟨_, rfl⟩
        rw [← hr]
        have HSL : Hid (∀ s, s < 2 ^ gn os → stR os a s < 2 ^ gn os) := Lib.hid (fun s hs => by
          have h24 := Nat.pow_le_pow_right (n := 2) (by decide) g4
          exact Nat.or_lt_two_pow hs (sumS_gn g (by omega) (by omega)))
        obtain ⟨n, hn⟩ : ∃ n, n = gn os := ⟨_, rfl⟩
        rw [← hn] at hxn hyn g3 g4 hr HSL
        have hx2 : (2 : Nat) ^ x < 2 ^ n := Nat.pow_lt_pow_right (by decide) hxn
        have h24 : (2 : Nat) ^ n ≤ 16777216 := by
          have := Nat.pow_le_pow_right (n := 2) (by decide) g4
          simpa using this
        have H24 := Lib.hid h24
        have hw : IntKind.i64.wrap (2 ^ x) = ((2 ^ x : Nat) : Int) := by rw [pow_wrap62 x (by omega)]; simp
        have HR := Lib.hid hr
        have hp1 : 1 ≤ popc (2 ^ x) := by
          have := popc_pos' (a := 2 ^ x) (by omega) (Nat.two_pow_pos x)
          exact this
        obtain ⟨X, hX⟩ : ∃ X, X = 2 ^ x := ⟨_, rfl⟩
        rw [← hX] at hw hx2 HR hp1
        have HX2 := Lib.hid hx2
        have HP1 := Lib.hid hp1
        have hX24 : X ≤ 16777216 := by omega
        have ha24 : a < 16777216 := by omega
        clear hc e hx hy hr hn ha hT g2 g5 g6 g hX hx2 h24 hp1
        go_enter Try.func25, Try.ntmps25
        go_wp2_with fail
        refine (C.out _ h1).mono ?_; rintro e w1 ⟨rfl, b1⟩
        have q1 := box_cell b1 (by simp)
        have z1 : w.heap.size < w1.heap.size := by have := b1.size; simp at this; omega
        have h2 := h1.below b1 (Nat.le_refl _)
        have hb1 := nx hb0 b1
        go_wp2_with fail
        refine (CX.out _ h2).mono ?_; rintro e w2 ⟨rfl, b2⟩
        have q2 := (b2.cell (p := ⟨w.heap.size, 0, none⟩) z1).trans q1
        have z2 := Nat.lt_of_lt_of_le z1 b2.size
        have h3 := h2.below b2 (Nat.le_refl _)
        have hb2 := nx hb1 b2
        go_wp2_with fail
        refine (CY.out _ h3).mono ?_; rintro e w3 ⟨rfl, b3⟩
        have q3 := (b3.cell (p := ⟨w.heap.size, 0, none⟩) z2).trans q2
        have z3 := Nat.lt_of_lt_of_le z2 b3.size
        have hb3 := nx hb2 b3
        clear b1 b2 b3 q1 z1 q2 z2 h1 h2 h3 hb0 hb1 hb2 C CX CY
        go_wp2_with fail
        go_loopw [9, 10] (fun vs vn wr => ∃ (s k : Nat), vs = .int .i64 (s : Int) ∧ vn = .int .i64 (k : Int) ∧ k < n ∧ Hid (s < 2 ^ n) ∧ Hid (k + 1 ≤ popc s) ∧ Hid (diG os a y (n + 1 - k) s k = r) ∧ Below w.heap.size w wr ∧ wr.cell? ⟨w.heap.size, 0, none⟩ = some (.slice a0 os.length c0) ∧ w.heap.size < wr.heap.size) (fun _ x _ => (n + 1 - intOf x).toNat)
        case atStart => exact ⟨X, 0, rfl, rfl, by omega, HX2, HP1, Lib.hid HR.out.symm, hb3, q3, z3⟩
        case round =>
          clear hb3 q3 z3
          obtain ⟨s, k, rfl, rfl, hk, HS, HP, HG, hbel, q4, z4⟩ := hrel
          have h4 := h0.below hbel (Nat.le_refl _)
          have hs24 : s < 16777216 := by have := HS.out; have := H24.out; omega
          have hR24 : stR os a s < 16777216 := by have := HSL.out s HS.out; have := H24.out; omega
          have hgo : diG os a y ((n - k) + 1) s k = r := by rw [show n - k + 1 = n + 1 - k by omega]; exact HG.out
          have CY := Lib.hid (CI.out s y (by omega) (by omega))
          cases hbit : s.testBit y with
          | true =>
            have e : r = (k : Int) := by rw [← hgo, diG, if_pos hbit]
            subst e
            rw [hbit] at CY
            clear hgo HG HR hbit
            go_wp2_with fail
            refine (CY.out _).mono ?_; rintro e w' ⟨rfl, rfl⟩
            go_wp2_with fail
            go_ret
            exact ⟨rfl, hbel⟩
          | false =>
            rw [hbit] at CY
            rw [diG, if_neg (by rw [hbit]; decide)] at hgo
            have CSS := Lib.hid (CS.out s wr h4 (by omega))
            have hsum : sumS os s a < 16777216 := by
              have h1 : sumS os s a ≤ stR os a s := Nat.right_le_or
              omega
            have hor : bits .or .i64 (s : Int) (sumS os s a : Int) = (stR os a s : Int) := or_nat _ _ (by omega) (by omega)
            have HSTK : Hid (stR os a s = s → r = -1) := Lib.hid (fun h => by rw [← hgo, h]; exact diG_stuck h hbit _ _)
            have HUP : Hid (stR os a s ≠ s → k + 1 < n ∧ k + 1 + 1 ≤ popc (stR os a s)) := Lib.hid (fun h => by
              have h1 := popc_lt (s := s) (t := stR os a s) (by omega) (fun i hi => by unfold stR; rw [Nat.testBit_or, hi]; rfl) (Ne.symm h)
              have h2 := popc_le (HSL.out s HS.out) (by omega)
              have := HP.out
              omega)
            have HSN := Lib.hid (HSL.out s HS.out)
            obtain ⟨t, ht⟩ : ∃ t, t = stR os a s := ⟨_, rfl⟩
            rw [← ht] at hgo hor HSTK HUP HSN hR24
            obtain ⟨u, hu⟩ : ∃ u, u = sumS os s a := ⟨_, rfl⟩
            rw [← hu] at hor CSS hsum
            clear hbit ht hu HG
            by_cases hts : t = s
            · have hbq : ((t : Int) == (s : Int)) = true := by rw [hts]; simp
              have e := HSTK.out hts
              subst e
              clear hts HSTK HUP hgo HR
              go_wp2_with fail
              refine (CY.out _).mono ?_; rintro e w' ⟨rfl, rfl⟩
              go_wp2_with fail
              refine CSS.out.mono ?_; rintro e w4 ⟨rfl, b4⟩
              go_wp2_with fail
              go_ret
              exact ⟨rfl, nx hbel b4⟩
            · have hbq : ((t : Int) == (s : Int)) = false := by simp; omega
              obtain ⟨u1, u2⟩ := HUP.out hts
              have HU2 := Lib.hid u2
              have HGO := Lib.hid (show diG os a y (n + 1 - (k + 1)) t (k + 1) = r by rw [show n + 1 - (k + 1) = n - k by omega]; exact hgo)
              clear hts HSTK HUP hgo u2
              go_wp2_with fail
              refine (CY.out _).mono ?_; rintro e w' ⟨rfl, rfl⟩
              go_wp2_with fail
              refine CSS.out.mono ?_; rintro e w4 ⟨rfl, b4⟩
              have hb4 := nx hbel b4
              have q5 := (b4.cell (p := ⟨w.heap.size, 0, none⟩) z4).trans q4
              have z5 := Nat.lt_of_lt_of_le z4 b4.size
              clear b4 hbel q4 z4 h4
              go_wp2_with fail
              go_roundw
              case rel => exact ⟨t, k + 1, rfl, by go_num, u1, HSN, HU2, HGO, hb4, q5, z5⟩
              case measure => simp [intOf]; omega
      · have e : diV os a x y = -1 := by
          have : ¬ diB os a x y = true := by simp [diB, hc]; omega
          rw [diV, if_neg this]
        rw [e]
        rw [decide_eq_false hy] at CY
        clear hc hx hy e
        go_enter Try.func25, Try.ntmps25
        go_wp2_with fail
        refine (C.out _ h1).mono ?_; rintro e w1 ⟨rfl, b1⟩
        have q1 := box_cell b1 (by simp)
        have z1 : w.heap.size < w1.heap.size := by have := b1.size; simp at this; omega
        have h2 := h1.below b1 (Nat.le_refl _)
        have hb1 := nx hb0 b1
        go_wp2_with fail
        refine (CX.out _ h2).mono ?_; rintro e w2 ⟨rfl, b2⟩
        have q2 := (b2.cell (p := ⟨w.heap.size, 0, none⟩) z1).trans q1
        have z2 := Nat.lt_of_lt_of_le z1 b2.size
        have h3 := h2.below b2 (Nat.le_refl _)
        have hb2 := nx hb1 b2
        go_wp2_with fail
        refine (CY.out _ h3).mono ?_; rintro e w3 ⟨rfl, b3⟩
        go_wp2_with fail
        go_ret
        exact ⟨rfl, nx hb2 b3⟩
    · have e : diV os a x y = -1 := by
        have : ¬ diB os a x y = true := by simp [diB, hc]; omega
        rw [diV, if_neg this]
      rw [e]
      rw [decide_eq_false hx] at CX
      clear hc hx e
      go_enter Try.func25, Try.ntmps25
      go_wp2_with fail
      refine (C.out _ h1).mono ?_; rintro e w1 ⟨rfl, b1⟩
      have q1 := box_cell b1 (by simp)
      have z1 : w.heap.size < w1.heap.size := by have := b1.size; simp at this; omega
      have h2 := h1.below b1 (Nat.le_refl _)
      have hb1 := nx hb0 b1
      go_wp2_with fail
      refine (CX.out _ h2).mono ?_; rintro e w2 ⟨rfl, b2⟩
      go_wp2_with fail
      go_ret
      exact ⟨rfl, nx hb1 b2⟩

set_option maxRecDepth 20000 in
set_option maxHeartbeats 3200000 in
theorem dis_spec (a0 : Option Addr) (c0 : Nat) (os : List Int) (a x y : Int) (w : World) (h0 : Ints w a0 c0 os) (hl : os.length ≤ 2000000) :
    Calls Try.prog 24 #[.agg #[.slice a0 os.length c0], .int .i64 a, .int .i64 x, .int .i64 y] w fun e w' => e = .returned (.int .i64 (diV os a x y)) ∧ Below w.heap.size w w' := by
  have hb0 := (Below.refl w.heap.size w).alloc (Nat.le_refl _) (.cells #[.slice a0 os.length c0] 27)
  have h1 := h0.below hb0 (Nat.le_refl _)
  have C := Lib.hid (fun w h => isCon_spec a0 c0 os a w h hl)
  have CX := Lib.hid (fun w h => l2Is_any a0 c0 os x w h hl)
  have CY := Lib.hid (fun w h => l2Is_any a0 c0 os y w h hl)
  cases hc : conB os a with
  | false =>
    have e : diV os a x y = -1 := by simp [diV, diB, hc]
    rw [e]
    rw [hc] at C
    clear hc e
    go_enter Try.func24, Try.ntmps24
    go_wp2_with fail
    refine (C.out _ h1).mono ?_; rintro e w1 ⟨rfl, b1⟩
    go_wp2_with fail
    go_ret
    exact ⟨rfl, nx hb0 b1⟩
  | true =>
    rw [hc] at C
    by_cases hx : 0 ≤ x ∧ x < (ordN os : Int)
    · rw [decide_eq_true hx] at CX
      by_cases hy : 0 ≤ y ∧ y < (ordN os : Int)
      · rw [decide_eq_true hy] at CY
        have e : diV os a x y = diG os a.toNat y.toNat (gn os + 1) (2 ^ x.toNat) 0 := by
          have : diB os a x y = true := by simp [diB, hc]; omega
          rw [diV, if_pos this]
        rw [e]
        obtain ⟨g, a, rfl, ha, _, _⟩ := conB_parts hc
        rw [ordN_grp g] at hx hy
        obtain ⟨x, rfl⟩ := Int.eq_ofNat_of_zero_le hx.1
        obtain ⟨y, rfl⟩ := Int.eq_ofNat_of_zero_le hy.1
        simp only [Int.toNat_natCast]
        obtain ⟨g2, g3, g4, g5, g6⟩ := grp_gn g
        have hT := setT_bd g
        have hxn : x < gn os := by omega
        have hyn : y < gn os := by omega
        have CS := Lib.hid (fun (s : Nat) w h hs => l4Sum_any a0 c0 os s a w h g hs (by omega))
        have CO := Lib.hid (fun w h => l2Order_any a0 c0 os w h g)
        rw [← g5] at CO
        
        obtain ⟨r, hr⟩ : ∃ r, r = diG os a y (gn os + 1) (2 ^ x) 0 := ⟨_, rfl⟩
        rw [← hr]
        have HSL : Hid (∀ s, s < 2 ^ gn os → stR os a s < 2 ^ gn os) := Lib.hid (fun s hs => by
          have h24 := Nat.pow_le_pow_right (n := 2) (by decide) g4
          exact Nat.or_lt_two_pow hs (sumS_gn g (by omega) (by omega)))
        obtain ⟨n, hn⟩ : ∃ n, n = gn os := ⟨_, rfl⟩
        rw [← hn] at hxn hyn g3 g4 hr HSL CO
        have hx2 : (2 : Nat) ^ x < 2 ^ n := Nat.pow_lt_pow_right (by decide) hxn
        have h24 : (2 : Nat) ^ n ≤ 16777216 := by
          have := Nat.pow_le_pow_right (n := 2) (by decide) g4
          simpa using this
        have H24 := Lib.hid h24
        have hw : IntKind.i64.wrap (2 ^ x) = ((2 ^ x : Nat) : Int) := by rw [pow_wrap62 x (by omega)]; simp
        have HR := Lib.hid hr
        have hp1 : 1 ≤ popc (2 ^ x) := by
          have := popc_pos' (a := 2 ^ x) (by omega) (Nat.two_pow_pos x)
          exact this
        obtain ⟨X, hX⟩ : ∃ X, X = 2 ^ x := ⟨_, rfl⟩
        rw [← hX] at hw hx2 HR hp1
        have HX2 := Lib.hid hx2
        have HP1 := Lib.hid hp1
        have hX24 : X ≤ 16777216 := by omega
        have ha24 : a < 16777216 := by omega
        clear hc e hx hy hr hn ha hT g2 g5 g6 g hX hx2 h24 hp1
        go_enter Try.func24, Try.ntmps24
        go_wp2_with fail
        refine (C.out _ h1).mono ?_; rintro e w1 ⟨rfl, b1⟩
        have q1 := box_cell b1 (by simp)
        have z1 : w.heap.size < w1.heap.size := by have := b1.size; simp at this; omega
        have h2 := h1.below b1 (Nat.le_refl _)
        have hb1 := nx hb0 b1
        go_wp2_with fail
        refine (CX.out _ h2).mono ?_; rintro e w2 ⟨rfl, b2⟩
        have q2 := (b2.cell (p := ⟨w.heap.size, 0, none⟩) z1).trans q1
        have z2 := Nat.lt_of_lt_of_le z1 b2.size
        have h3 := h2.below b2 (Nat.le_refl _)
        have hb2 := nx hb1 b2
        go_wp2_with fail
        refine (CY.out _ h3).mono ?_; rintro e w3 ⟨rfl, b3⟩
        have q3 := (b3.cell (p := ⟨w.heap.size, 0, none⟩) z2).trans q2
        have z3 := Nat.lt_of_lt_of_le z2 b3.size
        have hb3 := nx hb2 b3
        clear b1 b2 b3 q1 z1 q2 z2 h1 h2 h3 hb0 hb1 hb2 C CX CY
        go_wp2_with fail
        go_loopw [9, 10] (fun vs vn wr => ∃ (s k : Nat), vs = .int .i64 (s : Int) ∧ vn = .int .i64 (k : Int) ∧ k ≤ n + 1 ∧ Hid (s < 2 ^ n) ∧ Hid (diG os a y (n + 1 - k) s k = r) ∧ Below w.heap.size w wr ∧ wr.cell? ⟨w.heap.size, 0, none⟩ = some (.slice a0 os.length c0) ∧ w.heap.size < wr.heap.size) (fun _ x _ => (n + 1 - intOf x).toNat)
        case atStart => exact ⟨X, 0, rfl, rfl, by omega, HX2, Lib.hid HR.out.symm, hb3, q3, z3⟩
        case round =>
          clear hb3 q3 z3
          obtain ⟨s, k, rfl, rfl, hk, HS, HG, hbel, q4, z4⟩ := hrel
          have h4 := h0.below hbel (Nat.le_refl _)
          have hs24 : s < 16777216 := by have := HS.out; have := H24.out; omega
          have hR24 : stR os a s < 16777216 := by have := HSL.out s HS.out; have := H24.out; omega
          by_cases hkn : k ≤ n
          · have hgo : diG os a y ((n - k) + 1) s k = r := by rw [show n - k + 1 = n + 1 - k by omega]; exact HG.out
            have hbt := bit_is s y (by omega)
            cases hbit : s.testBit y with
            | true =>
              have e : r = (k : Int) := by rw [← hgo, diG, if_pos hbit]
              subst e
              rw [hbit] at hbt
              clear hgo HG HR hbit
              go_wp2_with fail
              refine (CO.out _ h4).mono ?_; rintro e w4 ⟨rfl, b4⟩
              go_wp2_with fail
              go_ret
              exact ⟨rfl, nx hbel b4⟩
            | false =>
              rw [hbit] at hbt
              rw [diG, if_neg (by rw [hbit]; decide)] at hgo
              have hsum : sumS os s a < 16777216 := by
                have h1 : sumS os s a ≤ stR os a s := Nat.right_le_or
                omega
              have hor : bits .or .i64 (s : Int) (sumS os s a : Int) = (stR os a s : Int) := or_nat _ _ (by omega) (by omega)
              have HSN := Lib.hid (HSL.out s HS.out)
              have CSS := Lib.hid (fun w h => CS.out s w h (by omega))
              rw [sumS_comm os a s] at CSS
              obtain ⟨t, ht⟩ : ∃ t, t = stR os a s := ⟨_, rfl⟩
              rw [← ht] at hgo hor HSN hR24
              obtain ⟨u, hu⟩ : ∃ u, u = sumS os s a := ⟨_, rfl⟩
              rw [← hu] at hor CSS hsum
              have HGO := Lib.hid (show diG os a y (n + 1 - (k + 1)) t (k + 1) = r by rw [show n + 1 - (k + 1) = n - k by omega]; exact hgo)
              clear hbit ht hu HG hgo
              go_wp2_with fail
              refine (CO.out _ h4).mono ?_; rintro e w4 ⟨rfl, b4⟩
              have hb4 := nx hbel b4
              have q5 := (b4.cell (p := ⟨w.heap.size, 0, none⟩) z4).trans q4
              have z5 := Nat.lt_of_lt_of_le z4 b4.size
              have h5 := h4.below b4 (Nat.le_refl _)
              clear b4 hbel q4 z4 h4
              go_wp2_with fail
              refine (CSS.out _ h5).mono ?_; rintro e w5 ⟨rfl, b5⟩
              have hb5 := nx hb4 b5
              have q6 := (b5.cell (p := ⟨w.heap.size, 0, none⟩) z5).trans q5
              have z6 := Nat.lt_of_lt_of_le z5 b5.size
              clear b5 hb4 q5 z5 h5
              go_wp2_with fail
              go_roundw
              case rel => exact ⟨t, k + 1, rfl, by go_num, by omega, HSN, HGO, hb5, q6, z6⟩
              case measure => simp [intOf]; omega
          · obtain rfl : k = n + 1 := by omega
            have e : r = -1 := by
              have := HG.out
              rw [show n + 1 - (n + 1) = 0 by omega] at this
              rw [← this]; rfl
            subst e
            clear HG HR
            go_wp2_with fail
            refine (CO.out _ h4).mono ?_; rintro e w4 ⟨rfl, b4⟩
            go_wp2_with fail
            go_ret
            exact ⟨rfl, nx hbel b4⟩
      · have e : diV os a x y = -1 := by
          have : ¬ diB os a x y = true := by simp [diB, hc]; omega
          rw [diV, if_neg this]
        rw [e]
        rw [decide_eq_false hy] at CY
        clear hc hx hy e
        go_enter Try.func24, Try.ntmps24
        go_wp2_with fail
        refine (C.out _ h1).mono ?_; rintro e w1 ⟨rfl, b1⟩
        have q1 := box_cell b1 (by simp)
        have z1 : w.heap.size < w1.heap.size := by have := b1.size; simp at this; omega
        have h2 := h1.below b1 (Nat.le_refl _)
        have hb1 := nx hb0 b1
        go_wp2_with fail
        refine (CX.out _ h2).mono ?_; rintro e w2 ⟨rfl, b2⟩
        have q2 := (b2.cell (p := ⟨w.heap.size, 0, none⟩) z1).trans q1
        have z2 := Nat.lt_of_lt_of_le z1 b2.size
        have h3 := h2.below b2 (Nat.le_refl _)
        have hb2 := nx hb1 b2
        go_wp2_with fail
        refine (CY.out _ h3).mono ?_; rintro e w3 ⟨rfl, b3⟩
        go_wp2_with fail
        go_ret
        exact ⟨rfl, nx hb2 b3⟩
    · have e : diV os a x y = -1 := by
        have : ¬ diB os a x y = true := by simp [diB, hc]; omega
        rw [diV, if_neg this]
      rw [e]
      rw [decide_eq_false hx] at CX
      clear hc hx e
      go_enter Try.func24, Try.ntmps24
      go_wp2_with fail
      refine (C.out _ h1).mono ?_; rintro e w1 ⟨rfl, b1⟩
      have q1 := box_cell b1 (by simp)
      have z1 : w.heap.size < w1.heap.size := by have := b1.size; simp at this; omega
      have h2 := h1.below b1 (Nat.le_refl _)
      have hb1 := nx hb0 b1
      go_wp2_with fail
      refine (CX.out _ h2).mono ?_; rintro e w2 ⟨rfl, b2⟩
      go_wp2_with fail
      go_ret
      exact ⟨rfl, nx hb1 b2⟩
end Go.Proofs.Ytpkokhdkhcdgpaa
