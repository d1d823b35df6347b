/-
Contracts of both IsSets: a number from 0 up to 2 to the power of the order. Conditions: lengths at most 2000000.
-/
import Derived.Test.YtokpgbpdmfibjaaGrp
import Derived.Test.YtokpgbpdmfibjaaMem
namespace Go.Proofs.Ytokpgbpdmfibjaa
open Go.RowKit Go.ChangeShapes

/-- The power of two above all sets. -/
def setT (os : List Int) : Nat := 2 ^ (gord os).toNat
def setB (os : List Int) (a : Int) : Bool := grpB os && (decide (0 ≤ a) && decide (a < (setT os : Int)))
theorem setB_parts {os : List Int} {a : Int} (h : setB os a = true) : grpB os = true ∧ ∃ m : Nat, a = (m : Int) ∧ m < setT os := by
  simp only [setB, Bool.and_eq_true, decide_eq_true_eq] at h
  obtain ⟨h1, h2, h3⟩ := h
  obtain ⟨m, rfl⟩ := Int.eq_ofNat_of_zero_le h2
  exact ⟨h1, m, rfl, by omega⟩
theorem pow_wrap62 (n : Nat) (h : n ≤ 62) : IntKind.i64.wrap (2 ^ n) = 2 ^ n := by
  have h1 : (0 : Int) ≤ 2 ^ n := Int.pow_nonneg (by decide)
  have h2 : (2 : Nat) ^ n ≤ 2 ^ 62 := Nat.pow_le_pow_right (by decide) h
  have h3 : ((2 ^ n : Nat) : Int) ≤ ((2 ^ 62 : Nat) : Int) := by exact_mod_cast h2
  have h4 : ((2 ^ n : Nat) : Int) = 2 ^ n := by simp
  apply wraps_i64 _ h1
  rw [← h4]
  have : ((2 ^ 62 : Nat) : Int) = 4611686018427387904 := by decide
  rw [this] at h3
  omega
theorem setT_bd {os : List Int} (h : grpB os = true) : 1 ≤ setT os ∧ setT os ≤ 16777216 := by
  obtain ⟨g1, g2, g3, g4⟩ := grp_parts h
  refine ⟨Nat.two_pow_pos _, ?_⟩
  have := Nat.pow_le_pow_right (n := 2) (by decide) (show (gord os).toNat ≤ 24 by omega)
  simpa [setT] using this
/-- The power as the walk meets it: the order m, the power T. -/
theorem setT_nat {os : List Int} (h : grpB os = true) : ∃ m T : Nat, gord os = (m : Int) ∧ setT os = T ∧ 1 ≤ m ∧ m ≤ 24 ∧ T = 2 ^ m ∧ IntKind.i64.wrap (2 ^ m) = (T : Int) := by
  obtain ⟨g1, g2, g3, g4⟩ := grp_parts h
  obtain ⟨m, hm⟩ := Int.eq_ofNat_of_zero_le (show 0 ≤ gord os by omega)
  refine ⟨m, 2 ^ m, hm, by unfold setT; rw [hm]; rfl, by omega, by omega, rfl, ?_⟩
  rw [pow_wrap62 m (by omega)]
  simp

set_option maxHeartbeats 800000 in
theorem isSet_impl (a0 : Option Addr) (c0 : Nat) (os : List Int) (a : Int) (w : World) (h0 : Ints w a0 c0 os) (hl : os.length ≤ 2000000) :
    Calls Try.prog 85 #[.agg #[.slice a0 os.length c0], .int .i64 a] w fun e w' => e = .returned (.bool (setB os a)) ∧ Below w.heap.size w w' := by
  have hb0 := (Below.refl w.heap.size w).alloc (Nat.le_refl _) (.cells #[.slice a0 os.length c0] 26)
  have h1 := h0.below hb0 (Nat.le_refl _)
  have C := Lib.hid (fun w h => isGroup_impl a0 c0 os w h hl)
  have C2 := Lib.hid (fun w h => orderOf_impl a0 c0 os w h hl)
  unfold setB
  cases hg0 : grpB os with
  | false =>
    rw [hg0] at C
    clear hg0 C2
    go_enter Try.func85, Try.ntmps85
    go_wp2_with fail
    refine (C.out _ h1).mono ?_; rintro e w1 ⟨rfl, b1⟩
    go_wp2_with fail
    go_ret
    exact ⟨rfl, nx hb0 b1⟩
  | true =>
    have e : ordV os = gord os := by simp [ordV, hg0]
    have hT := setT_bd hg0
    obtain ⟨m, T, hm, hTT, m1, m2, hp, hw⟩ := setT_nat hg0
    rw [hg0] at C
    rw [e, hm] at C2
    rw [hTT] at hT ⊢
    clear hm hg0 e hTT hp
    by_cases ha : 0 ≤ a
    · go_enter Try.func85, Try.ntmps85
      go_wp2_with fail
      refine (C.out _ h1).mono ?_; rintro e w1 ⟨rfl, b1⟩
      have hbox := box_cell b1 (by simp)
      have h2 := h1.below b1 (Nat.le_refl _)
      go_wp2_with fail
      refine (C2.out _ h2).mono ?_; rintro e w2 ⟨rfl, b2⟩
      go_wp2_with fail
      go_ret
      exact ⟨ret_bool (by simp [ha]), nx (nx hb0 b1) b2⟩
    · go_enter Try.func85, Try.ntmps85
      go_wp2_with fail
      refine (C.out _ h1).mono ?_; rintro e w1 ⟨rfl, b1⟩
      go_wp2_with fail
      go_ret
      exact ⟨ret_bool (by rw [decide_eq_false (show ¬ 0 ≤ a by omega)]; rfl), nx hb0 b1⟩

set_option maxHeartbeats 800000 in
theorem isSet_spec (a0 : Option Addr) (c0 : Nat) (os : List Int) (a : Int) (w : World) (h0 : Ints w a0 c0 os) (hl : os.length ≤ 2000000) :
    Calls Try.prog 89 #[.agg #[.slice a0 os.length c0], .int .i64 a] w fun e w' => e = .returned (.bool (setB os a)) ∧ Below w.heap.size w w' := by
  have hb0 := (Below.refl w.heap.size w).alloc (Nat.le_refl _) (.cells #[.slice a0 os.length c0] 26)
  have h1 := h0.below hb0 (Nat.le_refl _)
  have C := Lib.hid (fun w h => isGroup_spec a0 c0 os w h hl)
  cases hg0 : grpB os with
  | false =>
    have e : setB os a = false := by simp [setB, hg0]
    rw [e]
    rw [hg0] at C
    clear hg0 e
    go_enter Try.func89, Try.ntmps89
    go_wp2_with fail
    refine (C.out _ h1).mono ?_; rintro e w1 ⟨rfl, b1⟩
    go_wp2_with fail
    go_ret
    exact ⟨rfl, nx hb0 b1⟩
  | true =>
    have hT := setT_bd hg0
    have C2 := Lib.hid (fun w h => l2Order_any a0 c0 os w h hg0)
    obtain ⟨m, T, hm, hTT, m1, m2, hp, hw⟩ := setT_nat hg0
    rw [hg0] at C
    rw [hm] at C2
    have e : setB os a = inB a 0 ((T : Int) - 1) := by
      simp only [setB, hg0, hTT, inB, Bool.true_and]
      rw [← Bool.decide_and]
      exact decide_eq_decide.2 (by omega)
    rw [e]
    rw [hTT] at hT
    clear hm hg0 hTT hp
    obtain ⟨r, hr⟩ : ∃ r, inB a 0 ((T : Int) - 1) = r := ⟨_, rfl⟩
    rw [hr]
    have HR := Lib.hid hr
    clear hr e
    go_enter Try.func89, Try.ntmps89
    go_wp2_with fail
    refine (C.out _ h1).mono ?_; rintro e w1 ⟨rfl, b1⟩
    have hbox := box_cell b1 (by simp)
    have h2 := h1.below b1 (Nat.le_refl _)
    go_wp2_with fail
    refine (C2.out _ h2).mono ?_; rintro e w2 ⟨rfl, b2⟩
    go_wp2_with fail
    refine (l1In_is a 0 ((T : Int) - 1) r HR.out _).mono ?_; rintro e w' ⟨rfl, rfl⟩
    go_wp2_with fail
    go_ret
    exact ⟨ret_bool (by simp), nx (nx hb0 b1) b2⟩
end Go.Proofs.Ytokpgbpdmfibjaa
