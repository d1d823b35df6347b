/-
The program's IsSchurColoring returns what the reference's returns, for all arguments. No condition.
-/
import Derived.Test.YtfdbcgilblgbaaaSch
import Derived.Test.YtfdbcgilblgbaaaCol
import Derived.Test.YtfdbcgilblgbaaaHelp
namespace Go.Proofs.Ytfdbcgilblgbaaa
open Go.ChangeShapes Go.RowKit

noncomputable def iscB (xs : List Int) (k : Int) : Bool := colB xs k && !schB xs

set_option maxHeartbeats 800000 in
theorem isSchur_impl (a0 : Option Addr) (c0 : Nat) (xs : List Int) (k : Int) (w : World) (h0 : Ints w a0 c0 xs) (hl : xs.length ≤ 2000000) :
    Calls Try.prog 40 #[.slice a0 xs.length c0, .int .i64 k] w fun e w' => e = .returned (.bool (iscB xs k)) ∧ Below w.heap.size w w' := by
  have C1 := Lib.hid (fun w h => sch_impl a0 c0 xs w h hl)
  have C2 := Lib.hid (fun w h => isColoring_impl a0 c0 xs k w h hl)
  obtain ⟨rl, hrl⟩ : ∃ r, r = schL xs := ⟨_, rfl⟩
  have e : iscB xs k = (colB xs k && !schB xs) := rfl
  rw [e]
  clear e
  obtain ⟨rb, hrb⟩ : ∃ r, r = schB xs := ⟨_, rfl⟩
  obtain ⟨cb, hcb⟩ : ∃ r, r = colB xs k := ⟨_, rfl⟩
  rw [← hrl, ← hrb] at C1
  rw [← hcb] at C2
  rw [← hrb, ← hcb]
  clear hrl hrb hcb
  cases cb with
  | true =>
    go_enter Try.func40, Try.ntmps40
    go_wp2_with fail
    refine (C1.out _ h0).mono ?_; rintro e w1 ⟨a1, c1, rfl, o1, b1⟩
    have h1 := h0.below b1 (Nat.le_refl _)
    go_wp2_with fail
    refine (C2.out _ h1).mono ?_; rintro e w' ⟨rfl, rfl⟩
    go_wp2_with fail
    go_ret
    exact ⟨ret_bool (by simp), b1⟩
  | false =>
    go_enter Try.func40, Try.ntmps40
    go_wp2_with fail
    refine (C1.out _ h0).mono ?_; rintro e w1 ⟨a1, c1, rfl, o1, b1⟩
    have h1 := h0.below b1 (Nat.le_refl _)
    go_wp2_with fail
    refine (C2.out _ h1).mono ?_; rintro e w' ⟨rfl, rfl⟩
    go_wp2_with fail
    go_ret
    exact ⟨ret_bool (by simp), b1⟩

set_option maxHeartbeats 800000 in
theorem isSchur_spec (a0 : Option Addr) (c0 : Nat) (xs : List Int) (k : Int) (w : World) (h0 : Ints w a0 c0 xs) (hl : xs.length ≤ 2000000) :
    Calls Try.prog 39 #[.slice a0 xs.length c0, .int .i64 k] w fun e w' => e = .returned (.bool (iscB xs k)) ∧ Below w.heap.size w w' := by
  have C1 := Lib.hid (fun w h => sch_spec a0 c0 xs w h hl)
  have C2 := Lib.hid (fun w h => isColoring_spec a0 c0 xs k w h hl)
  obtain ⟨rl, hrl⟩ : ∃ r, r = schL xs := ⟨_, rfl⟩
  have e : iscB xs k = (colB xs k && !schB xs) := rfl
  rw [e]
  clear e
  obtain ⟨rb, hrb⟩ : ∃ r, r = schB xs := ⟨_, rfl⟩
  obtain ⟨cb, hcb⟩ : ∃ r, r = colB xs k := ⟨_, rfl⟩
  rw [← hrl, ← hrb] at C1
  rw [← hcb] at C2
  rw [← hrb, ← hcb]
  clear hrl hrb hcb
  cases cb with
  | true =>
    go_enter Try.func39, Try.ntmps39
    go_wp2_with fail
    refine (C1.out _ h0).mono ?_; rintro e w1 ⟨a1, c1, rfl, o1, b1⟩
    have h1 := h0.below b1 (Nat.le_refl _)
    go_wp2_with fail
    refine (C2.out _ h1).mono ?_; rintro e w' ⟨rfl, rfl⟩
    go_wp2_with fail
    go_ret
    exact ⟨ret_bool (by simp), b1⟩
  | false =>
    go_enter Try.func39, Try.ntmps39
    go_wp2_with fail
    refine (C1.out _ h0).mono ?_; rintro e w1 ⟨a1, c1, rfl, o1, b1⟩
    have h1 := h0.below b1 (Nat.le_refl _)
    go_wp2_with fail
    refine (C2.out _ h1).mono ?_; rintro e w' ⟨rfl, rfl⟩
    go_wp2_with fail
    go_ret
    exact ⟨ret_bool (by simp), b1⟩

set_option maxHeartbeats 800000 in
theorem walk_fnExactIsSchurColoring (a0 : Option Addr) (c0 : Nat) (xs : List Int) (k : Int) (w : World) (h0 : Ints w a0 c0 xs) (_ : (Lit.int .i64 k).wf = true) :
    Calls Try.prog 13 #[.slice a0 xs.length c0, .int .i64 k] w fun e w' => e = .returned (.bool true) ∧ Below w.heap.size w w' := by
  by_cases hbig : (1048576 : Int) < xs.length
  · go_enter Try.func13, Try.ntmps13
    go_wp2_with fail
    go_ret
    exact ⟨rfl, Below.refl _ _⟩
  · have hl : xs.length ≤ 2000000 := by omega
    have C1 := Lib.hid (fun a c w h => isSchur_spec a c xs k w h hl)
    have C2 := Lib.hid (fun a c w h => isSchur_impl a c xs k w h hl)
    obtain ⟨r, hr⟩ : ∃ r, r = iscB xs k := ⟨_, rfl⟩
    rw [← hr] at C1 C2
    clear hr
    go_enter Try.func13, Try.ntmps13
    go_wp2_with fail
    refine (toIntS_any a0 c0 xs _ h0 hl).mono ?_; rintro e w1 ⟨a1, c1, rfl, o1, b1⟩
    go_wp2_with fail
    refine (C1.out _ _ _ o1.ints).mono ?_; rintro e w2 ⟨rfl, b2⟩
    have h0a := (h0.below b1 (Nat.le_refl _)).below b2 (Nat.le_refl _)
    go_wp2_with fail
    refine (toIntS_any a0 c0 xs _ h0a hl).mono ?_; rintro e w3 ⟨aX, cX, rfl, oX, b3⟩
    have h0b := h0a.below b3 (Nat.le_refl _)
    go_wp2_with fail
    refine (C2.out _ _ _ oX.ints).mono ?_; rintro e w4 ⟨rfl, b4⟩
    have h0c := h0b.below b4 (Nat.le_refl _)
    have oX4 := oX.below b4 (Nat.le_refl _)
    go_wp2_with fail
    refine (toIntS_any a0 c0 xs _ h0c hl).mono ?_; rintro e w5 ⟨aY, cY, rfl, oY, b5⟩
    have oX5 := oX4.below b5 (Nat.le_refl _)
    go_wp2_with fail
    refine (eqIntS_refl aX aY cX cY xs _ oX5.ints oY.ints hl).mono ?_; rintro e w6 ⟨rfl, b6⟩
    go_wp2_with fail
    go_ret
    exact ⟨rfl, nx (nx (nx (nx (nx b1 b2) b3) b4) b5) b6⟩


end Go.Proofs.Ytfdbcgilblgbaaa
