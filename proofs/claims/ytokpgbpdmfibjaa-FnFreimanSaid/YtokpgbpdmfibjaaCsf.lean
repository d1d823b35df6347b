/-
Contracts of FullSet, of the sets without what another one has, and of both IsCompleteSumFrees. Conditions: lengths at most 2000000.
-/
import Derived.Test.YtokpgbpdmfibjaaSum
import Derived.Test.YtokpgbpdmfibjaaCon
import Derived.Deep.RegionWith
namespace Go.Proofs.Ytokpgbpdmfibjaa
open Go.RowKit Go.ChangeShapes
set_option linter.unusedSimpArgs false

/-- a without the bits of b. -/
def minusS (a b : Nat) : Nat := a &&& (18446744073709551615 - b)
theorem andNot_nat (a b : Nat) (ha : a < 9223372036854775808) (hb : b < 9223372036854775808) : bits .andNot .i64 (a : Int) (b : Int) = (minusS a b : Int) := by
  have h1 : a % 2 ^ 64 = a := Nat.mod_eq_of_lt (by omega)
  have h2 : b % 2 ^ 64 = b := Nat.mod_eq_of_lt (by omega)
  have h3 : minusS a b ≤ a := Nat.and_le_left
  have h4 : bits .andNot .i64 (a : Int) (b : Int) = IntKind.i64.wrap ((minusS a b : Nat) : Int) := by
    show IntKind.i64.wrap ((BitVec.ofInt 64 (a : Int) &&& ~~~ BitVec.ofInt 64 (b : Int)).toNat : Int) = _
    rw [BitVec.ofInt_natCast, BitVec.ofInt_natCast, BitVec.toNat_and, BitVec.toNat_not, BitVec.toNat_ofNat, BitVec.toNat_ofNat, h1, h2]
    rfl
  rw [h4]
  exact wraps_i64 _ (by omega) (by omega)
theorem minusS_bit (a b i : Nat) (ha : a < 9223372036854775808) (hb : b < 9223372036854775808) : (minusS a b).testBit i = (a.testBit i && !b.testBit i) := by
  unfold minusS
  rw [Nat.testBit_and]
  have e : 18446744073709551615 - b = 2 ^ 64 - (b + 1) := by omega
  rw [e, Nat.testBit_two_pow_sub_succ (by omega)]
  by_cases h : i < 64
  · simp [h]
  · have : a.testBit i = false := Nat.testBit_lt_two_pow (Nat.lt_of_lt_of_le ha (by
      have := Nat.pow_le_pow_right (n := 2) (by decide) (show 63 ≤ i by omega)
      simpa using this))
    simp [this]
theorem full_minus (n a : Nat) (hn : n ≤ 24) (ha : a < 2 ^ n) : minusS (2 ^ n - 1) a = 2 ^ n - 1 - a := by
  have hp := pow40 (show n ≤ 40 by omega)
  apply Nat.eq_of_testBit_eq
  intro i
  rw [minusS_bit _ _ _ (by omega) (by omega), Nat.testBit_two_pow_sub_one, show 2 ^ n - 1 - a = 2 ^ n - (a + 1) by omega, Nat.testBit_two_pow_sub_succ ha]

set_option maxHeartbeats 800000 in
theorem fullSet_any (a0 : Option Addr) (c0 : Nat) (os : List Int) (w : World) (h0 : Ints w a0 c0 os) (hl : os.length ≤ 2000000) (hg0 : grpB os = true) :
    Calls Try.prog 88 #[.agg #[.slice a0 os.length c0]] w fun e w' => e = .returned (.int .i64 ((setT os - 1 : Nat) : Int)) ∧ Below w.heap.size w w' := by
  have hb0 := (Below.refl w.heap.size w).alloc (Nat.le_refl _) (.cells #[.slice a0 os.length c0] 26)
  have h1 := h0.below hb0 (Nat.le_refl _)
  have C := Lib.hid (fun w h => isGroup_impl a0 c0 os w h hl)
  have C2 := Lib.hid (fun w h => orderOf_impl a0 c0 os w h hl)
  have e : ordV os = gord os := by simp [ordV, hg0]
  have hT := setT_bd hg0
  obtain ⟨m, T, hm, hTT, m1, m2, hp, hw⟩ := setT_nat hg0
  rw [hg0] at C
  rw [e, hm] at C2
  rw [hTT] at hT ⊢
  have hT1 : ((T - 1 : Nat) : Int) = (T : Int) - 1 := by omega
  rw [hT1]
  clear hm hg0 e hTT hp hT1
  go_enter Try.func88, Try.ntmps88
  go_wp2_with fail
  refine (C.out _ h1).mono ?_; rintro e w1 ⟨rfl, b1⟩
  have hbox := box_cell b1 (by simp)
  have h2 := h1.below b1 (Nat.le_refl _)
  go_wp2_with fail
  refine (C2.out _ h2).mono ?_; rintro e w2 ⟨rfl, b2⟩
  go_wp2_with fail
  go_ret
  exact ⟨rfl, nx (nx hb0 b1) b2⟩

def csfB (os : List Int) (a : Int) : Bool := setB os a && (sumS os a.toNat a.toNat == setT os - 1 - a.toNat)


end Go.Proofs.Ytokpgbpdmfibjaa
