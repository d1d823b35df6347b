/-
Contracts for all arguments: both sides' IsSumFree, CountSet, IsPrimeOrder. Conditions: lists of at most 2000000 orders.
-/
import Derived.Test.YtbidkjhgodkamaaSfr
namespace Go.Proofs.Ytbidkjhgodkamaa
open Go.RowKit Go.ChangeShapes
set_option linter.unusedVariables false

def sfB (os : List Int) (a : Int) : Bool := setB os a && freeB os a.toNat
theorem setB_bd {os : List Int} {a : Int} (h : setB os a = true) : ∃ m : Nat, a = (m : Int) ∧ m < setT os ∧ m < 16777216 ∧ grpB os = true ∧ m < 2 ^ gn os ∧ gn os ≤ 24 := by
  obtain ⟨hg, m, rfl, hm⟩ := setB_parts h
  have hT := setT_bd hg
  obtain ⟨g2, g3, g4, g5, g6⟩ := grp_gn hg
  exact ⟨m, rfl, hm, by omega, hg, hm, g4⟩
set_option maxHeartbeats 800000 in
theorem sf_impl (a0 : Option Addr) (c0 : Nat) (os : List Int) (a : Int) (w : World) (h0 : Ints w a0 c0 os) (hl : os.length ≤ 2000000) :
    Calls Try.prog 15 #[.agg #[.slice a0 os.length c0], .int .i64 a] w fun e w' => e = .returned (.bool (sfB os a)) ∧ Below w.heap.size w w' := by
  cases hs : setB os a with
  | true =>
    obtain ⟨m, rfl, hm, _, hg, _⟩ := setB_bd hs
    have e : sfB os (m : Int) = freeB os m := by simp [sfB, hs]
    rw [e]
    exact isSumFree_impl a0 c0 os m w h0 hl hg hm
  | false =>
    have e : sfB os a = false := by simp [sfB, hs]
    rw [e]
    have hb0 := (Below.refl w.heap.size w).alloc (Nat.le_refl _) (.cells #[.slice a0 os.length c0] 26)
    have h1 := h0.below hb0 (Nat.le_refl _)
    have CS := Lib.hid (fun w h => isSet_impl a0 c0 os a w h hl)
    rw [hs] at CS
    clear hs e
    go_enter Try.func15, Try.ntmps15
    go_wp2_with fail
    refine (CS.out _ h1).mono ?_; rintro e w1 ⟨rfl, b1⟩
    go_wp2_with fail
    go_ret
    exact ⟨rfl, nx hb0 b1⟩
set_option maxHeartbeats 800000 in
theorem sf_spec (a0 : Option Addr) (c0 : Nat) (os : List Int) (a : Int) (w : World) (h0 : Ints w a0 c0 os) (hl : os.length ≤ 2000000) :
    Calls Try.prog 31 #[.agg #[.slice a0 os.length c0], .int .i64 a] w fun e w' => e = .returned (.bool (sfB os a)) ∧ Below w.heap.size w w' := by
  have hb0 := (Below.refl w.heap.size w).alloc (Nat.le_refl _) (.cells #[.slice a0 os.length c0] 26)
  have h1 := h0.below hb0 (Nat.le_refl _)
  have CS := Lib.hid (fun w h => isSet_spec a0 c0 os a w h hl)
  cases hs : setB os a with
  | true =>
    obtain ⟨m, rfl, hm, hm2, hg, _⟩ := setB_bd hs
    have e : sfB os (m : Int) = freeB os m := by simp [sfB, hs]
    rw [e]
    have C := Lib.hid (fun w h => l21Free_any a0 c0 os m w h hg hm2)
    rw [hs] at CS
    obtain ⟨v, hv⟩ : ∃ v, v = freeB os m := ⟨_, rfl⟩
    rw [← hv] at C ⊢
    clear hs e hv hg hm hm2
    go_enter Try.func31, Try.ntmps31
    go_wp2_with fail
    refine (CS.out _ h1).mono ?_; rintro e w1 ⟨rfl, b1⟩
    have hbox := box_cell b1 (by simp)
    have h2 := h1.below b1 (Nat.le_refl _)
    go_wp2_with fail
    refine (C.out _ h2).mono ?_; rintro e w2 ⟨rfl, b2⟩
    go_wp2_with fail
    go_ret
    exact ⟨ret_bool (by simp), nx (nx hb0 b1) b2⟩
  | false =>
    have e : sfB os a = false := by simp [sfB, hs]
    rw [e]
    rw [hs] at CS
    clear hs e
    go_enter Try.func31, Try.ntmps31
    go_wp2_with fail
    refine (CS.out _ h1).mono ?_; rintro e w1 ⟨rfl, b1⟩
    go_wp2_with fail
    go_ret
    exact ⟨rfl, nx hb0 b1⟩
/-- The number of a set's elements, -1 where it is no set. -/
def cntV (os : List Int) (a : Int) : Int := if setB os a = true then (popc a.toNat : Int) else -1
set_option maxHeartbeats 800000 in
theorem cntS_spec (a0 : Option Addr) (c0 : Nat) (os : List Int) (a : Int) (w : World) (h0 : Ints w a0 c0 os) (hl : os.length ≤ 2000000) :
    Calls Try.prog 16 #[.agg #[.slice a0 os.length c0], .int .i64 a] w fun e w' => e = .returned (.int .i64 (cntV os a)) ∧ Below w.heap.size w w' := by
  have hb0 := (Below.refl w.heap.size w).alloc (Nat.le_refl _) (.cells #[.slice a0 os.length c0] 26)
  have h1 := h0.below hb0 (Nat.le_refl _)
  have CS := Lib.hid (fun w h => isSet_spec a0 c0 os a w h hl)
  cases hs : setB os a with
  | true =>
    obtain ⟨m, rfl, hm, hm2, hg, _⟩ := setB_bd hs
    have e : cntV os (m : Int) = (popc m : Int) := by simp [cntV, hs]
    rw [e]
    have C := Lib.hid (fun w => l3Bits_any m (by omega) w)
    rw [hs] at CS
    obtain ⟨v, hv⟩ : ∃ v, v = popc m := ⟨_, rfl⟩
    rw [← hv] at C ⊢
    clear hs e hv hg hm hm2
    go_enter Try.func16, Try.ntmps16
    go_wp2_with fail
    refine (CS.out _ h1).mono ?_; rintro e w1 ⟨rfl, b1⟩
    go_wp2_with fail
    refine (C.out _).mono ?_; rintro e w2 ⟨rfl, rfl⟩
    go_wp2_with fail
    go_ret
    exact ⟨rfl, nx hb0 b1⟩
  | false =>
    have e : cntV os a = -1 := by simp [cntV, hs]
    rw [e]
    rw [hs] at CS
    clear hs e
    go_enter Try.func16, Try.ntmps16
    go_wp2_with fail
    refine (CS.out _ h1).mono ?_; rintro e w1 ⟨rfl, b1⟩
    go_wp2_with fail
    go_ret
    exact ⟨rfl, nx hb0 b1⟩
theorem ordV_nat (os : List Int) : ∃ m : Nat, ordV os = (m : Int) ∧ m ≤ 24 := by
  unfold ordV
  split
  · rename_i h
    obtain ⟨_, _, h3, h4⟩ := grp_parts h
    exact ⟨(gord os).toNat, by omega, by omega⟩
  · exact ⟨0, rfl, by omega⟩
theorem prm_end {m : Nat} (hm : m ≤ 24) (h : ∀ e, 2 ≤ e → e < m → m % e ≠ 0) : prmB (m : Int) = decide (2 ≤ (m : Int)) := by
  have key : ∀ m : Nat, m < 25 → (∀ e : Nat, e < 25 → 2 ≤ e → e < m → m % e ≠ 0) → prmB (m : Int) = decide (2 ≤ (m : Int)) := by decide +kernel
  exact key m (by omega) fun e _ h1 h2 => h e h1 h2
theorem prm_hit {m d : Nat} (hm : m ≤ 24) (h1 : 2 ≤ d) (h2 : d < m) (h3 : m % d = 0) : prmB (m : Int) = false := by
  have key : ∀ m : Nat, m < 25 → ∀ d : Nat, d < 25 → 2 ≤ d → d < m → m % d = 0 → prmB (m : Int) = false := by decide +kernel
  exact key m (by omega) d (by omega) h1 h2 h3
set_option maxHeartbeats 800000 in
theorem primeO_spec (a0 : Option Addr) (c0 : Nat) (os : List Int) (w : World) (h0 : Ints w a0 c0 os) (hl : os.length ≤ 2000000) :
    Calls Try.prog 22 #[.agg #[.slice a0 os.length c0]] w fun e w' => e = .returned (.bool (prmB (ordV os))) ∧ Below w.heap.size w w' := by
  have hb0 := (Below.refl w.heap.size w).alloc (Nat.le_refl _) (.cells #[.slice a0 os.length c0] 26)
  have h1 := h0.below hb0 (Nat.le_refl _)
  have C := Lib.hid (fun w h => orderOf_spec a0 c0 os w h hl)
  obtain ⟨m, hm, hm24⟩ := ordV_nat os
  rw [hm] at C ⊢
  clear hm
  go_enter Try.func22, Try.ntmps22
  go_wp2_with fail
  refine (C.out _ h1).mono ?_; rintro e w1 ⟨rfl, b1⟩
  have B1 := nx hb0 b1
  clear C h1 b1 hb0
  go_wp2_with fail
  go_loop [4] (fun vd => ∃ d : Nat, 2 ≤ d ∧ d ≤ 25 ∧ vd = .int .i64 (d : Int) ∧ Hid (∀ e, 2 ≤ e → e < d → e < m → m % e ≠ 0)) (fun vd => (25 - intOf vd).toNat)
  case atStart => exact ⟨2, by omega, by omega, rfl, Lib.hid (fun e h1 h2 => by omega)⟩
  case round =>
    obtain ⟨d, hd2, hd, rfl, HH⟩ := hrel
    by_cases hlt : d < m
    · have hlti : (d : Int) < m := by omega
      have hd0 : ¬ d = 0 := by omega
      by_cases hz : m % d = 0
      · have ht : (m : Int).tmod d = 0 := by rw [Int.tmod_eq_emod_of_nonneg (by omega)]; omega
        have HZ := Lib.hid hz
        clear hz
        go_wp2_with fail
        go_ret
        exact ⟨ret_bool (prm_hit hm24 hd2 hlt HZ.out).symm, B1⟩
      · obtain ⟨r, hr⟩ : ∃ r : Int, r = (m : Int).tmod d := ⟨_, rfl⟩
        have hr0 : (r == 0) = false := by rw [beq_eq_false_iff_ne, hr, Int.tmod_eq_emod_of_nonneg (by omega)]; omega
        have hr1 := hr.symm
        have HZ := Lib.hid hz
        clear hz hr
        go_wp2_with fail
        go_round
        case rel => exact ⟨d + 1, by omega, by omega, by go_num, Lib.hid (fun e h1 h2 h3 => by
          by_cases h4 : e = d
          · subst h4; exact HZ.out
          · exact HH.out e h1 (by omega) h3)⟩
        case measure => simp [intOf]; omega
    · have hlti : (m : Int) ≤ d := by omega
      go_wp2_with fail
      go_ret
      exact ⟨ret_bool (prm_end hm24 (fun e h1 h2 => HH.out e h1 (by omega) h2)).symm, B1⟩
end Go.Proofs.Ytbidkjhgodkamaa
