/-
Elements of sums and of negatives, plain; contract of the program's difference; IsIndependent of both sides. Conditions: lengths at most 2000000.
-/
import Derived.Test.YtglkeljpndhneaaAlg
import Derived.Test.YtglkeljpndhneaaCon
import Derived.Deep.RegionHeld3
namespace Go.Proofs.Ytglkeljpndhneaa
open Go.RowKit Go.ChangeShapes
set_option linter.unusedVariables false

theorem and_eq0 (a b : Nat) : ((a &&& b) == 0) = true ↔ ∀ i, a.testBit i = true → b.testBit i = true → False := by
  rw [beq_iff_eq]
  constructor
  · intro h i h1 h2
    have : (a &&& b).testBit i = true := by rw [Nat.testBit_and, h1, h2]; rfl
    rw [h] at this
    simp at this
  · intro h
    apply Nat.eq_of_testBit_eq
    intro i
    rw [Nat.testBit_and, Nat.zero_testBit]
    cases h1 : a.testBit i with
    | false => rfl
    | true =>
      cases h2 : b.testBit i with
      | false => rfl
      | true => exact (h i h1 h2).elim
theorem sumS_iff {os : List Int} {a b : Nat} (ha : a < 18446744073709551616) (hb : b < 18446744073709551616) (i : Nat) :
    (sumS os a b).testBit i = true ↔ ∃ p q : Nat, a.testBit p = true ∧ b.testBit q = true ∧ gadd os p q = i := by
  rw [sumS_bit]
  simp only [List.any_eq_true, mems_mem ha, mems_mem hb, beq_iff_eq]
  constructor
  · rintro ⟨x, ⟨p, rfl, hp⟩, y, ⟨q, rfl, hq⟩, e⟩
    exact ⟨p, q, hp, hq, by simpa using e⟩
  · rintro ⟨p, q, hp, hq, e⟩
    exact ⟨p, ⟨p, rfl, hp⟩, q, ⟨q, rfl, hq⟩, by simpa using e⟩
theorem orL_iff {f : Nat → Nat} {a : Nat} (ha : a < 18446744073709551616) (i : Nat) :
    (orL f (mems a)).testBit i = true ↔ ∃ p : Nat, a.testBit p = true ∧ f p = i := by
  rw [orL_bit]
  simp only [List.any_eq_true, mems_mem ha, beq_iff_eq]
  constructor
  · rintro ⟨x, ⟨p, rfl, hp⟩, e⟩
    exact ⟨p, hp, by simpa using e⟩
  · rintro ⟨p, hp, e⟩
    exact ⟨p, ⟨p, rfl, hp⟩, by simpa using e⟩
theorem bit_lt {a n i : Nat} (ha : a < 2 ^ n) (hi : a.testBit i = true) : i < n := by
  apply Nat.lt_of_not_le
  intro hn
  rw [Nat.testBit_lt_two_pow (Nat.lt_of_lt_of_le ha (Nat.pow_le_pow_right (by decide) hn))] at hi
  cases hi
/-- The set of differences. -/
def difS (os : List Int) (a b : Nat) : Nat := sumS os a (orL (gneg os) (mems b))
theorem opp_lt {os : List Int} (h : grpB os = true) (a : Nat) : orL (gneg os) (mems a) < 16777216 := by
  simpa using orL_lt (fun y => gneg_lt24 h y) (mems a)
theorem difS_lt {os : List Int} (h : grpB os = true) (a b : Nat) : difS os a b < 16777216 := by
  unfold difS; simpa using sumS_lt h _ _
theorem difS_iff {os : List Int} (h : grpB os = true) {a b : Nat} (ha : a < 18446744073709551616) (hb : b < 18446744073709551616) (i : Nat) :
    (difS os a b).testBit i = true ↔ ∃ p q : Nat, a.testBit p = true ∧ b.testBit q = true ∧ gadd os p (gneg os q) = i := by
  have hl := opp_lt h b
  unfold difS
  rw [sumS_iff ha (by omega)]
  constructor
  · rintro ⟨p, q, hp, hq, e⟩
    obtain ⟨s, hs, rfl⟩ := (orL_iff hb q).1 hq
    exact ⟨p, s, hp, hs, e⟩
  · rintro ⟨p, q, hp, hq, e⟩
    exact ⟨p, gneg os q, hp, (orL_iff hb _).2 ⟨q, hq, rfl⟩, e⟩

set_option maxHeartbeats 800000 in
theorem difference_any (a0 : Option Addr) (c0 : Nat) (os : List Int) (a b : Nat) (w : World) (h0 : Ints w a0 c0 os) (hg0 : grpB os = true) (ha : a < 1099511627776) (hb : b < 1099511627776) :
    Calls Try.prog 80 #[.agg #[.slice a0 os.length c0], .int .i64 a, .int .i64 b] w fun e w' => e = .returned (.int .i64 (difS os a b)) ∧ Below w.heap.size w w' := by
  have hb0 := (Below.refl w.heap.size w).alloc (Nat.le_refl _) (.cells #[.slice a0 os.length c0] 27)
  have h1 := h0.below hb0 (Nat.le_refl _)
  have hl := opp_lt hg0 b
  have C1 := Lib.hid (fun w h => opposite_any a0 c0 os b w h hg0 hb)
  have C2 := Lib.hid (fun w h => sum_any a0 c0 os a (orL (gneg os) (mems b)) w h hg0 ha (by omega))
  have hbox : (w.alloc (.cells #[.slice a0 os.length c0] 27)).cell? ⟨w.heap.size, 0, none⟩ = some (.slice a0 os.length c0) := by simp [go_sem]
  have zz : w.heap.size < (w.alloc (.cells #[.slice a0 os.length c0] 27)).heap.size := by simp
  unfold difS
  obtain ⟨o, ho⟩ : ∃ o, o = orL (gneg os) (mems b) := ⟨_, rfl⟩
  rw [← ho] at C1 C2 ⊢
  obtain ⟨s, hs⟩ : ∃ s, s = sumS os a o := ⟨_, rfl⟩
  rw [← hs] at C2 ⊢
  clear hs ho hg0 hl
  go_enter Try.func80, Try.ntmps80
  go_wp2_with fail
  go_region_held3 (fun w' => w'.cell? ⟨w.heap.size, 0, none⟩ = some (.slice a0 os.length c0)) (assumption) (first
    | (go_at_call 93; refine (C1.out _ h1.drew).mono ?_; rintro e w1 ⟨rfl, b1⟩; have h2 := h1.below (below_undrew b1) (Nat.le_refl _); have p1 := (b1.cell (p := ⟨w.heap.size, 0, none⟩) zz).trans hbox; have z1 := Nat.lt_of_lt_of_le zz b1.size)
    | (go_at_call 59; refine (C2.out _ h2).mono ?_; rintro e w2 ⟨rfl, b2⟩; have p2 := (b2.cell (p := ⟨w.heap.size, 0, none⟩) z1).trans p1))
  go_wp2_with fail
  go_ret
  exact ⟨rfl, nx (nx hb0 (below_undrew b1)) b2⟩

theorem and_zero (a b : Nat) (ha : a < 9223372036854775808) (hb : b < 9223372036854775808) : (bits .and .i64 (a : Int) (b : Int) == 0) = ((a &&& b) == 0) := by
  rw [and_nat a b ha hb]; exact nat_beq (a &&& b) 0
def indB (os : List Int) (a x : Int) : Bool := conB os a && (setB os x && ((sumS os a.toNat x.toNat &&& x.toNat) == 0))
theorem ind_eq {os : List Int} (h : grpB os = true) {a x : Nat} (ha : a < setT os) (hx : x < setT os) : ((difS os x x &&& a) == 0) = ((sumS os a x &&& x) == 0) := by
  obtain ⟨g2, g3, g4, g5, g6⟩ := grp_gn h
  have hT := setT_bd h
  have hx' := hx
  rw [g6] at hx'
  rw [Bool.eq_iff_iff, and_eq0, and_eq0]
  constructor
  · intro H i h1 h2
    obtain ⟨c, q, hc, hq, e⟩ := (sumS_iff (by omega) (by omega) i).1 h1
    refine H c ((difS_iff h (by omega) (by omega) c).2 ⟨i, q, h2, hq, ?_⟩) hc
    have hcn : c < gn os := bit_lt (by rw [← g6]; exact ha) hc
    rw [← e, gadd_comm os c q, gsub_add g2 q c hcn]
  · intro H i h1 h2
    obtain ⟨p, q, hp, hq, e⟩ := (difS_iff h (by omega) (by omega) i).1 h1
    refine H p ((sumS_iff (by omega) (by omega) p).2 ⟨i, q, h2, hq, ?_⟩) hp
    rw [← e, gadd_assoc g2, gadd_neg' g2, gadd_zero g2 p (bit_lt hx' hp)]

set_option maxHeartbeats 1600000 in
theorem ind_spec (a0 : Option Addr) (c0 : Nat) (os : List Int) (a x : Int) (w : World) (h0 : Ints w a0 c0 os) (hl : os.length ≤ 2000000) :
    Calls Try.prog 36 #[.agg #[.slice a0 os.length c0], .int .i64 a, .int .i64 x] w fun e w' => e = .returned (.bool (indB os a x)) ∧ Below w.heap.size w w' := by
  have hb0 := (Below.refl w.heap.size w).alloc (Nat.le_refl _) (.cells #[.slice a0 os.length c0] 27)
  have h1 := h0.below hb0 (Nat.le_refl _)
  have C := Lib.hid (fun w h => isCon_spec a0 c0 os a w h hl)
  have CS := Lib.hid (fun w h => isSet_spec a0 c0 os x w h hl)
  cases hc : conB os a with
  | false =>
    have e : indB os a x = false := by simp [indB, hc]
    rw [e]
    rw [hc] at C
    clear hc e
    go_enter Try.func36, Try.ntmps36
    go_wp2_with fail
    refine (C.out _ h1).mono ?_; rintro e w1 ⟨rfl, b1⟩
    go_wp2_with fail
    go_ret
    exact ⟨rfl, nx hb0 b1⟩
  | true =>
    cases hs : setB os x with
    | false =>
      have e : indB os a x = false := by simp [indB, hs]
      rw [e]
      rw [hc] at C
      rw [hs] at CS
      clear hc hs e
      go_enter Try.func36, Try.ntmps36
      go_wp2_with fail
      refine (C.out _ h1).mono ?_; rintro e w1 ⟨rfl, b1⟩
      have q1 := box_cell b1 (by simp)
      have h2 := h1.below b1 (Nat.le_refl _)
      have hb1 := nx hb0 b1
      go_wp2_with fail
      refine (CS.out _ h2).mono ?_; rintro e w2 ⟨rfl, b2⟩
      go_wp2_with fail
      go_ret
      exact ⟨rfl, nx hb1 b2⟩
    | true =>
      obtain ⟨g, a, rfl, ha, _, _⟩ := conB_parts hc
      obtain ⟨_, x, rfl, hx⟩ := setB_parts hs
      have hT := setT_bd g
      have e : indB os (a : Int) (x : Int) = ((sumS os a x &&& x) == 0) := by
        simp [indB, hc, hs]
      rw [e]
      rw [hc] at C
      rw [hs] at CS
      have C3 := Lib.hid (fun w h => l4Sum_any a0 c0 os x a w h g (by omega) (by omega))
      have hsl : sumS os a x < 16777216 := by simpa using sumS_lt g _ _
      have hz := and_zero (sumS os a x) x (by omega) (by omega)
      obtain ⟨s, hs'⟩ : ∃ s, s = sumS os a x := ⟨_, rfl⟩
      rw [← hs'] at C3 hsl hz ⊢
      obtain ⟨q, hq⟩ : ∃ q, q = (s &&& x == 0) := ⟨_, rfl⟩
      rw [← hq] at hz ⊢
      have ha24 : a < 16777216 := by omega
      have hx24 : x < 16777216 := by omega
      clear hs' hq g hc hs e hT ha hx
      go_enter Try.func36, Try.ntmps36
      go_wp2_with fail
      refine (C.out _ h1).mono ?_; rintro e w1 ⟨rfl, b1⟩
      have q1 := box_cell b1 (by simp)
      have z1 : w.heap.size < w1.heap.size := by have := b1.size; simp at this; omega
      have h2 := h1.below b1 (Nat.le_refl _)
      have hb1 := nx hb0 b1
      go_wp2_with fail
      refine (CS.out _ h2).mono ?_; rintro e w2 ⟨rfl, b2⟩
      have q2 := (b2.cell (p := ⟨w.heap.size, 0, none⟩) z1).trans q1
      have h3 := h2.below b2 (Nat.le_refl _)
      have hb2 := nx hb1 b2
      go_wp2_with fail
      refine (C3.out _ h3).mono ?_; rintro e w3 ⟨rfl, b3⟩
      go_wp2_with fail
      go_ret
      exact ⟨ret_bool (by first | rfl | exact hz), nx hb2 b3⟩

set_option maxHeartbeats 1600000 in
theorem ind_impl (a0 : Option Addr) (c0 : Nat) (os : List Int) (a x : Int) (w : World) (h0 : Ints w a0 c0 os) (hl : os.length ≤ 2000000) :
    Calls Try.prog 37 #[.agg #[.slice a0 os.length c0], .int .i64 a, .int .i64 x] w fun e w' => e = .returned (.bool (indB os a x)) ∧ Below w.heap.size w w' := by
  have hb0 := (Below.refl w.heap.size w).alloc (Nat.le_refl _) (.cells #[.slice a0 os.length c0] 27)
  have h1 := h0.below hb0 (Nat.le_refl _)
  have C := Lib.hid (fun w h => isCon_impl a0 c0 os a w h hl)
  have CS := Lib.hid (fun w h => isSet_impl a0 c0 os x w h hl)
  cases hc : conB os a with
  | false =>
    have e : indB os a x = false := by simp [indB, hc]
    rw [e]
    rw [hc] at C
    clear hc e
    go_enter Try.func37, Try.ntmps37
    go_wp2_with fail
    refine (C.out _ h1).mono ?_; rintro e w1 ⟨rfl, b1⟩
    go_wp2_with fail
    go_ret
    exact ⟨rfl, nx hb0 b1⟩
  | true =>
    cases hs : setB os x with
    | false =>
      have e : indB os a x = false := by simp [indB, hs]
      rw [e]
      rw [hc] at C
      rw [hs] at CS
      clear hc hs e
      go_enter Try.func37, Try.ntmps37
      go_wp2_with fail
      refine (C.out _ h1).mono ?_; rintro e w1 ⟨rfl, b1⟩
      have q1 := box_cell b1 (by simp)
      have h2 := h1.below b1 (Nat.le_refl _)
      have hb1 := nx hb0 b1
      go_wp2_with fail
      refine (CS.out _ h2).mono ?_; rintro e w2 ⟨rfl, b2⟩
      go_wp2_with fail
      go_ret
      exact ⟨rfl, nx hb1 b2⟩
    | true =>
      obtain ⟨g, a, rfl, ha, _, _⟩ := conB_parts hc
      obtain ⟨_, x, rfl, hx⟩ := setB_parts hs
      have hT := setT_bd g
      have e : indB os (a : Int) (x : Int) = ((difS os x x &&& a) == 0) := by
        rw [ind_eq g ha hx]; simp [indB, hc, hs]
      rw [e]
      rw [hc] at C
      rw [hs] at CS
      have C3 := Lib.hid (fun w h => difference_any a0 c0 os x x w h g (by omega) (by omega))
      have hsl : difS os x x < 16777216 := difS_lt g x x
      have hz := and_zero (difS os x x) a (by omega) (by omega)
      obtain ⟨s, hs'⟩ : ∃ s, s = difS os x x := ⟨_, rfl⟩
      rw [← hs'] at C3 hsl hz ⊢
      obtain ⟨q, hq⟩ : ∃ q, q = (s &&& a == 0) := ⟨_, rfl⟩
      rw [← hq] at hz ⊢
      have ha24 : a < 16777216 := by omega
      have hx24 : x < 16777216 := by omega
      clear hs' hq g hc hs e hT ha hx
      go_enter Try.func37, Try.ntmps37
      go_wp2_with fail
      refine (C.out _ h1).mono ?_; rintro e w1 ⟨rfl, b1⟩
      have q1 := box_cell b1 (by simp)
      have z1 : w.heap.size < w1.heap.size := by have := b1.size; simp at this; omega
      have h2 := h1.below b1 (Nat.le_refl _)
      have hb1 := nx hb0 b1
      go_wp2_with fail
      refine (CS.out _ h2).mono ?_; rintro e w2 ⟨rfl, b2⟩
      have q2 := (b2.cell (p := ⟨w.heap.size, 0, none⟩) z1).trans q1
      have h3 := h2.below b2 (Nat.le_refl _)
      have hb2 := nx hb1 b2
      go_wp2_with fail
      refine (C3.out _ h3).mono ?_; rintro e w3 ⟨rfl, b3⟩
      go_wp2_with fail
      go_ret
      exact ⟨ret_bool (by first | rfl | exact hz), nx hb2 b3⟩
end Go.Proofs.Ytglkeljpndhneaa
