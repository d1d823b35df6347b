/-
The program's IsSchurColoring returns what the reference's returns, for all arguments. No condition.
-/
import Derived.Test.YtbidkjhgodkamaaSch
import Derived.Test.YtbidkjhgodkamaaCol
import Derived.Test.YtbidkjhgodkamaaHelp
namespace Go.Proofs.Ytbidkjhgodkamaa
open Go.ChangeShapes Go.RowKit

noncomputable def iscB (xs : List Int) (k : Int) : Bool := colB xs k && !schB xs

set_option maxHeartbeats 800000 in
theorem isSchur_impl (a0 : Option Addr) (c0 : Nat) (xs : List Int) (k : Int) (w : World) (h0 : Ints w a0 c0 xs) (hl : xs.length ≤ 2000000) :
    Calls Try.prog 99 #[.slice a0 xs.length c0, .int .i64 k] w fun e w' => e = .returned (.bool (iscB xs k)) ∧ Below w.heap.size w w' := by
  have C1 := Lib.hid (fun w h => sch_impl a0 c0 xs w h hl)
  have C2 := Lib.hid (fun w h => isColoring_impl a0 c0 xs k w h hl)
  obtain ⟨rl, hrl⟩ : ∃ r, r = schL xs := ⟨_, rfl⟩
  have e : iscB xs k = (colB xs k && !schB xs) := rfl
  rw [e]
  clear e
  obtain ⟨rb, hrb⟩ : ∃ r, r = schB xs := ⟨_, rfl⟩
  obtain ⟨cb, hcb⟩ : ∃ r, r = colB xs k := ⟨_, rfl⟩
  rw [← hrl, ← hrb] at C1
  rw [← hcb] at C2
  rw [← hrb, ← hcb]
  clear hrl hrb hcb
  cases cb with
  | true =>
    go_enter Try.func99, Try.ntmps99
    go_wp2_with fail
    refine (C1.out _ h0).mono ?_; rintro e w1 ⟨a1, c1, rfl, o1, b1⟩
    have h1 := h0.below b1 (Nat.le_refl _)
    go_wp2_with fail
    refine (C2.out _ h1).mono ?_; rintro e w' ⟨rfl, rfl⟩
    go_wp2_with fail
    go_ret
    exact ⟨ret_bool (by simp), b1⟩
  | false =>
    go_enter Try.func99, Try.ntmps99
    go_wp2_with fail
    refine (C1.out _ h0).mono ?_; rintro e w1 ⟨a1, c1, rfl, o1, b1⟩
    have h1 := h0.below b1 (Nat.le_refl _)
    go_wp2_with fail
    refine (C2.out _ h1).mono ?_; rintro e w' ⟨rfl, rfl⟩
    go_wp2_with fail
    go_ret
    exact ⟨ret_bool (by simp), b1⟩



end Go.Proofs.Ytbidkjhgodkamaa
