/-
Contracts of the reference's StabilizerOf, ShiftSet and FullSet. Conditions: at most 2000000 orders.
-/
import Derived.Test.YtokpgbpdmfibjaaAuq
import Derived.Test.YtokpgbpdmfibjaaSto
namespace Go.Proofs.Ytokpgbpdmfibjaa
open Go.RowKit Go.ChangeShapes
set_option linter.unusedVariables false

set_option maxRecDepth 20000 in
set_option maxHeartbeats 1600000 in
theorem stab_any (a0 : Option Addr) (c0 : Nat) (os : List Int) (a : Nat) (w : World) (h0 : Ints w a0 c0 os) (hl : os.length ≤ 2000000) (hg0 : grpB os = true) (ha : a < 2 ^ gn os) :
    Calls Try.prog 91 #[.agg #[.slice a0 os.length c0], .int .i64 a] w fun e w' => e = .returned (.int .i64 (stS os a (gn os) : Int)) ∧ Below w.heap.size w w' := by
  have hb0 := (Below.refl w.heap.size w).alloc (Nat.le_refl _) (.cells #[.slice a0 os.length c0] 26)
  have q0 : (w.alloc (.cells #[.slice a0 os.length c0] 26)).cell? ⟨w.heap.size, 0, none⟩ = some (.slice a0 os.length c0) := by simp [go_sem]
  have z0 : w.heap.size < (w.alloc (.cells #[.slice a0 os.length c0] 26)).heap.size := by simp
  obtain ⟨g2, g3, g4, g5, g6⟩ := grp_gn hg0
  have h24 := Nat.pow_le_pow_right (n := 2) (by decide) g4
  have e24 : (2 : Nat) ^ 24 = 16777216 := by decide
  have HSL : Hid (∀ y, orL (gadd os y) (mems a) < 16777216) := Lib.hid (fun y => by
    have := orL_lt (f := gadd os y) (m := 24) (fun z => by have := gadd_lt' g2 y z; omega) (mems a)
    simpa using this)
  have HST : Hid (∀ k, k ≤ gn os → stS os a k < 16777216) := Lib.hid (fun k hk => by
    have h1 := stS_lt os a k
    have h2 := Nat.pow_le_pow_right (n := 2) (by decide) (Nat.le_trans hk g4)
    omega)
  have ha24 : a < 16777216 := by omega
  have CO := Lib.hid (fun w h => l2Order_any a0 c0 os w h hg0)
  rw [← g5] at CO
  have CS := Lib.hid (fun y w h hy => l3Shift_any a0 c0 os a y w h hg0 (by omega) hy)
  have HSU := Lib.hid (fun k => show stS os a (k + 1) = if orL (gadd os k) (mems a) = a then stS os a k ||| 2 ^ k else stS os a k from rfl)
  obtain ⟨n, hn⟩ : ∃ n, n = gn os := ⟨_, rfl⟩
  rw [← hn] at CO HST g4 ⊢
  clear hn g2 g3 g5 g6 hg0 ha h24 e24
  go_enter Try.func91, Try.ntmps91
  go_wp2_with fail
  go_loopw [5, 6] (fun vs vi wr => ∃ (k s : Nat), k ≤ n ∧ vi = .int .i64 (k : Int) ∧ vs = .int .i64 (s : Int) ∧ Hid (s = stS os a k) ∧ s < 16777216 ∧ Below w.heap.size w wr ∧ wr.cell? ⟨w.heap.size, 0, none⟩ = some (.slice a0 os.length c0) ∧ w.heap.size < wr.heap.size) (fun _ i _ => n - (intOf i).toNat)
  case atStart => exact ⟨0, 0, by omega, rfl, rfl, Lib.hid rfl, by omega, hb0, q0, z0⟩
  case round =>
    clear hb0 q0 z0
    obtain ⟨k, s, hk, rfl, rfl, HS, hs24, hbel, q3, z3⟩ := hrel
    have h3 := h0.below hbel (Nat.le_refl _)
    go_wp2_with fail
    refine (CO.out _ h3).mono ?_; rintro e w4 ⟨rfl, b4⟩
    have q4 := (b4.cell (p := ⟨w.heap.size, 0, none⟩) z3).trans q3
    have z4 := Nat.lt_of_lt_of_le z3 b4.size
    have hb4 := nx hbel b4
    have h4 := h3.below b4 (Nat.le_refl _)
    clear b4 q3 z3 hbel h3
    by_cases hkn : k < n
    · have hki : (k : Int) < n := by omega
      have hu := HSU.out k
      have hu24 := HSL.out k
      have CS1 := Lib.hid (fun w h => CS.out k w h (by omega))
      obtain ⟨T, hT, hT1, hw, hor⟩ := or_one s k hs24 (by omega)
      rw [← HS.out, ← hT] at hu
      have ht24 := HST.out (k + 1) (by omega)
      obtain ⟨u, huu⟩ : ∃ u, u = orL (gadd os k) (mems a) := ⟨_, rfl⟩
      obtain ⟨t, ht⟩ : ∃ t, t = stS os a (k + 1) := ⟨_, rfl⟩
      rw [← huu] at hu hu24 CS1
      rw [← ht] at hu ht24
      have HT := Lib.hid ht
      clear huu ht hT HS
      go_wp2_with fail
      refine (CS1.out _ h4).mono ?_; rintro e w5 ⟨rfl, b5⟩
      have q5 := (b5.cell (p := ⟨w.heap.size, 0, none⟩) z4).trans q4
      have z5 := Nat.lt_of_lt_of_le z4 b5.size
      have hb5 := nx hb4 b5
      clear b5 q4 z4 hb4 h4
      by_cases e : u = a
      · rw [if_pos e] at hu
        have hub : ((u : Int) == (a : Int)) = true := by rw [e]; simp
        rw [← hu] at hor
        clear hu e
        go_wp2_with fail
        go_roundw
        case rel => exact ⟨k + 1, t, by omega, by go_num, rfl, HT, ht24, hb5, q5, z5⟩
        case measure => simp [intOf]; omega
      · rw [if_neg e] at hu
        have hub : ((u : Int) == (a : Int)) = false := by simp; omega
        clear hor e
        go_wp2_with fail
        go_roundw
        case rel => exact ⟨k + 1, t, by omega, by go_num, by rw [hu], HT, ht24, hb5, q5, z5⟩
        case measure => simp [intOf]; omega
    · obtain rfl : k = n := by omega
      have hki : ¬ ((k : Int) < k) := by omega
      go_wp2_with fail
      go_ret
      exact ⟨by rw [HS.out]; rfl, hb4⟩
/-- What StabilizerOf returns. -/
def staV (os : List Int) (a : Int) : Int := if setB os a = true then (stS os a.toNat (gn os) : Int) else -1
set_option maxHeartbeats 1600000 in
theorem sta_spec (a0 : Option Addr) (c0 : Nat) (os : List Int) (a : Int) (w : World) (h0 : Ints w a0 c0 os) (hl : os.length ≤ 2000000) :
    Calls Try.prog 19 #[.agg #[.slice a0 os.length c0], .int .i64 a] w fun e w' => e = .returned (.int .i64 (staV os a)) ∧ Below w.heap.size w w' := by
  have hb0 := (Below.refl w.heap.size w).alloc (Nat.le_refl _) (.cells #[.slice a0 os.length c0] 26)
  have h1 := h0.below hb0 (Nat.le_refl _)
  have CA := Lib.hid (fun w h => isSet_spec a0 c0 os a w h hl)
  cases hsa : setB os a with
  | false =>
    rw [hsa] at CA
    have e : staV os a = -1 := by simp [staV, hsa]
    rw [e]
    clear hsa e
    go_enter Try.func19, Try.ntmps19
    go_wp2_with fail
    refine (CA.out _ h1).mono ?_; rintro e w1 ⟨rfl, b1⟩
    go_wp2_with fail
    go_ret
    exact ⟨rfl, nx hb0 b1⟩
  | true =>
    rw [hsa] at CA
    obtain ⟨hg, m, rfl, hm⟩ := setB_parts hsa
    have e : staV os (m : Int) = (stS os m (gn os) : Int) := by simp [staV, hsa]
    rw [e]
    obtain ⟨g2, g3, g4, g5, g6⟩ := grp_gn hg
    have CS := Lib.hid (fun w h => stab_any a0 c0 os m w h hl hg (by rw [← g6]; exact hm))
    obtain ⟨r, hr⟩ : ∃ r, r = stS os m (gn os) := ⟨_, rfl⟩
    rw [← hr] at CS ⊢
    clear hsa e hr hg g2 g3 g4 g5 g6 hm
    go_enter Try.func19, Try.ntmps19
    go_wp2_with fail
    refine (CA.out _ h1).mono ?_; rintro e w1 ⟨rfl, b1⟩
    have q1 := box_cell b1 (by simp)
    have h2 := h1.below b1 (Nat.le_refl _)
    go_wp2_with fail
    refine (CS.out _ h2).mono ?_; rintro e w2 ⟨rfl, b2⟩
    go_wp2_with fail
    go_ret
    exact ⟨rfl, nx (nx hb0 b1) b2⟩
/-- What ShiftSet returns. -/
def shfV (os : List Int) (a x : Int) : Int := if setB os a = true ∧ (0 ≤ x ∧ x < (ordN os : Int)) then (orL (gadd os x.toNat) (mems a.toNat) : Int) else -1
set_option maxHeartbeats 1600000 in
theorem shf_spec (a0 : Option Addr) (c0 : Nat) (os : List Int) (a x : Int) (w : World) (h0 : Ints w a0 c0 os) (hl : os.length ≤ 2000000) :
    Calls Try.prog 21 #[.agg #[.slice a0 os.length c0], .int .i64 a, .int .i64 x] w fun e w' => e = .returned (.int .i64 (shfV os a x)) ∧ Below w.heap.size w w' := by
  have hb0 := (Below.refl w.heap.size w).alloc (Nat.le_refl _) (.cells #[.slice a0 os.length c0] 26)
  have h1 := h0.below hb0 (Nat.le_refl _)
  have CA := Lib.hid (fun w h => isSet_spec a0 c0 os a w h hl)
  have CI := Lib.hid (fun w h => l2Is_any a0 c0 os x w h hl)
  cases hsa : setB os a with
  | false =>
    rw [hsa] at CA
    have e : shfV os a x = -1 := by simp [shfV, hsa]
    rw [e]
    clear hsa e
    go_enter Try.func21, Try.ntmps21
    go_wp2_with fail
    refine (CA.out _ h1).mono ?_; rintro e w1 ⟨rfl, b1⟩
    go_wp2_with fail
    go_ret
    exact ⟨rfl, nx hb0 b1⟩
  | true =>
    rw [hsa] at CA
    by_cases hx : 0 ≤ x ∧ x < (ordN os : Int)
    · obtain ⟨hg, m, rfl, hm⟩ := setB_parts hsa
      have e : shfV os (m : Int) x = (orL (gadd os x.toNat) (mems m) : Int) := by simp [shfV, hsa, hx]
      rw [e]
      rw [show decide (0 ≤ x ∧ x < (ordN os : Int)) = true by simpa using hx] at CI
      obtain ⟨g2, g3, g4, g5, g6⟩ := grp_gn hg
      have hT := setT_bd hg
      have := (ordN_eq os).2
      obtain ⟨y, rfl⟩ := Int.eq_ofNat_of_zero_le hx.1
      simp only [Int.toNat_natCast]
      have CS := Lib.hid (fun w h => l3Shift_any a0 c0 os m y w h hg (by omega) (by omega))
      obtain ⟨r, hr⟩ : ∃ r, r = orL (gadd os y) (mems m) := ⟨_, rfl⟩
      rw [← hr] at CS ⊢
      clear hsa e hr hg g2 g3 g4 g5 g6 hm hT hx
      go_enter Try.func21, Try.ntmps21
      go_wp2_with fail
      refine (CA.out _ h1).mono ?_; rintro e w1 ⟨rfl, b1⟩
      have q1 := box_cell b1 (by simp)
      have z1 : w.heap.size < w1.heap.size := by have := b1.size; simp at this; omega
      have h2 := h1.below b1 (Nat.le_refl _)
      have hb1 := nx hb0 b1
      clear b1 h1 hb0
      go_wp2_with fail
      refine (CI.out _ h2).mono ?_; rintro e w2 ⟨rfl, b2⟩
      have q2 := (b2.cell (p := ⟨w.heap.size, 0, none⟩) z1).trans q1
      have h3 := h2.below b2 (Nat.le_refl _)
      have hb2 := nx hb1 b2
      clear b2 h2 hb1 q1
      go_wp2_with fail
      refine (CS.out _ h3).mono ?_; rintro e w3 ⟨rfl, b3⟩
      go_wp2_with fail
      go_ret
      exact ⟨rfl, nx hb2 b3⟩
    · have e : shfV os a x = -1 := by unfold shfV; rw [if_neg (fun h => hx h.2)]
      rw [e]
      rw [show decide (0 ≤ x ∧ x < (ordN os : Int)) = false by simpa using hx] at CI
      clear hsa e hx
      go_enter Try.func21, Try.ntmps21
      go_wp2_with fail
      refine (CA.out _ h1).mono ?_; rintro e w1 ⟨rfl, b1⟩
      have q1 := box_cell b1 (by simp)
      have h2 := h1.below b1 (Nat.le_refl _)
      go_wp2_with fail
      refine (CI.out _ h2).mono ?_; rintro e w2 ⟨rfl, b2⟩
      go_wp2_with fail
      go_ret
      exact ⟨rfl, nx (nx hb0 b1) b2⟩
set_option maxHeartbeats 800000 in
theorem fullSet_spec (a0 : Option Addr) (c0 : Nat) (os : List Int) (w : World) (h0 : Ints w a0 c0 os) (hl : os.length ≤ 2000000) (hg0 : grpB os = true) :
    Calls Try.prog 15 #[.agg #[.slice a0 os.length c0]] w fun e w' => e = .returned (.int .i64 ((setT os - 1 : Nat) : Int)) ∧ Below w.heap.size w w' := by
  have hb0 := (Below.refl w.heap.size w).alloc (Nat.le_refl _) (.cells #[.slice a0 os.length c0] 26)
  have h1 := h0.below hb0 (Nat.le_refl _)
  have C := Lib.hid (fun w h => isGroup_spec a0 c0 os w h hl)
  have C2 := Lib.hid (fun w h => l2Order_any a0 c0 os w h hg0)
  have hT := setT_bd hg0
  obtain ⟨m, T, hm, hTT, m1, m2, hp, hw⟩ := setT_nat hg0
  rw [hg0] at C
  rw [hm] at C2
  rw [hTT] at hT ⊢
  have hT1 : ((T - 1 : Nat) : Int) = (T : Int) - 1 := by omega
  rw [hT1]
  clear hm hg0 hTT hp hT1
  go_enter Try.func15, Try.ntmps15
  go_wp2_with fail
  refine (C.out _ h1).mono ?_; rintro e w1 ⟨rfl, b1⟩
  have hbox := box_cell b1 (by simp)
  have h2 := h1.below b1 (Nat.le_refl _)
  go_wp2_with fail
  refine (C2.out _ h2).mono ?_; rintro e w2 ⟨rfl, b2⟩
  go_wp2_with fail
  go_ret
  exact ⟨rfl, nx (nx hb0 b1) b2⟩
end Go.Proofs.Ytokpgbpdmfibjaa
