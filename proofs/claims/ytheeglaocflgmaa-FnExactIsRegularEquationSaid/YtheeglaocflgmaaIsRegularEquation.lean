/-
The program's IsRegularEquation returns what the reference's returns, for all arguments. No condition.
-/
import Derived.Test.YtheeglaocflgmaaZc
import Derived.Test.YtheeglaocflgmaaHelp
namespace Go.Proofs.Ytheeglaocflgmaa
open Go.ChangeShapes Go.RowKit

set_option maxHeartbeats 800000 in
theorem isReg_impl (a0 : Option Addr) (c0 : Nat) (xs : List Int) (w : World) (h0 : Ints w a0 c0 xs) (hl : xs.length ≤ 2000000) :
    Calls Try.prog 26 #[.slice a0 xs.length c0] w fun e w' => e = .returned (.bool (zcF xs).isSome) ∧ Below w.heap.size w w' := by
  have C1 := Lib.hid (fun w h => zc_impl a0 c0 xs w h hl)
  obtain ⟨rl, hrl⟩ : ∃ r, r = zcOf (zcF xs) := ⟨_, rfl⟩
  obtain ⟨rb, hrb⟩ : ∃ r, r = (zcF xs).isSome := ⟨_, rfl⟩
  rw [← hrl, ← hrb] at C1
  rw [← hrb]
  clear hrl hrb
  go_enter Try.func26, Try.ntmps26
  go_wp2_with fail
  refine (C1.out _ h0).mono ?_; rintro e w1 ⟨a1, c1, rfl, o1, b1⟩
  go_wp2_with fail
  go_ret
  exact ⟨rfl, b1⟩

set_option maxHeartbeats 800000 in
theorem isReg_spec (a0 : Option Addr) (c0 : Nat) (xs : List Int) (w : World) (h0 : Ints w a0 c0 xs) (hl : xs.length ≤ 2000000) :
    Calls Try.prog 24 #[.slice a0 xs.length c0] w fun e w' => e = .returned (.bool (zcF xs).isSome) ∧ Below w.heap.size w w' := by
  have C1 := Lib.hid (fun w h => zc_spec a0 c0 xs w h hl)
  obtain ⟨rl, hrl⟩ : ∃ r, r = zcOf (zcF xs) := ⟨_, rfl⟩
  obtain ⟨rb, hrb⟩ : ∃ r, r = (zcF xs).isSome := ⟨_, rfl⟩
  rw [← hrl, ← hrb] at C1
  rw [← hrb]
  clear hrl hrb
  go_enter Try.func24, Try.ntmps24
  go_wp2_with fail
  refine (C1.out _ h0).mono ?_; rintro e w1 ⟨a1, c1, rfl, o1, b1⟩
  go_wp2_with fail
  go_ret
  exact ⟨rfl, b1⟩

set_option maxHeartbeats 800000 in
theorem walk_fnExactIsRegularEquation (a0 : Option Addr) (c0 : Nat) (xs : List Int) (w : World) (h0 : Ints w a0 c0 xs) :
    Calls Try.prog 6 #[.slice a0 xs.length c0] w fun e w' => e = .returned (.bool true) ∧ Below w.heap.size w w' := by
  by_cases hbig : (1048576 : Int) < xs.length
  · go_enter Try.func6, Try.ntmps6
    go_wp2_with fail
    go_ret
    exact ⟨rfl, Below.refl _ _⟩
  · have hl : xs.length ≤ 2000000 := by omega
    have C1 := Lib.hid (fun a c w h => isReg_spec a c xs w h hl)
    have C2 := Lib.hid (fun a c w h => isReg_impl a c xs w h hl)
    obtain ⟨r, hr⟩ : ∃ r, r = (zcF xs).isSome := ⟨_, rfl⟩
    rw [← hr] at C1 C2
    clear hr
    go_enter Try.func6, Try.ntmps6
    go_wp2_with fail
    refine (toIntS_any a0 c0 xs _ h0 hl).mono ?_; rintro e w1 ⟨a1, c1, rfl, o1, b1⟩
    go_wp2_with fail
    refine (C1.out _ _ _ o1.ints).mono ?_; rintro e w2 ⟨rfl, b2⟩
    have h0a := (h0.below b1 (Nat.le_refl _)).below b2 (Nat.le_refl _)
    go_wp2_with fail
    refine (toIntS_any a0 c0 xs _ h0a hl).mono ?_; rintro e w3 ⟨aX, cX, rfl, oX, b3⟩
    have h0b := h0a.below b3 (Nat.le_refl _)
    go_wp2_with fail
    refine (C2.out _ _ _ oX.ints).mono ?_; rintro e w4 ⟨rfl, b4⟩
    have h0c := h0b.below b4 (Nat.le_refl _)
    have oX4 := oX.below b4 (Nat.le_refl _)
    go_wp2_with fail
    refine (toIntS_any a0 c0 xs _ h0c hl).mono ?_; rintro e w5 ⟨aY, cY, rfl, oY, b5⟩
    have oX5 := oX4.below b5 (Nat.le_refl _)
    go_wp2_with fail
    refine (eqIntS_refl aX aY cX cY xs _ oX5.ints oY.ints hl).mono ?_; rintro e w6 ⟨rfl, b6⟩
    go_wp2_with fail
    go_ret
    exact ⟨rfl, nx (nx (nx (nx (nx b1 b2) b3) b4) b5) b6⟩


end Go.Proofs.Ytheeglaocflgmaa
