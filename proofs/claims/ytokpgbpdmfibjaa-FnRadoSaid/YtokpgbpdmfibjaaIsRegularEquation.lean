/-
The program's IsRegularEquation returns what the reference's returns, for all arguments. No condition.
-/
import Derived.Test.YtokpgbpdmfibjaaZc
import Derived.Test.YtokpgbpdmfibjaaHelp
namespace Go.Proofs.Ytokpgbpdmfibjaa
open Go.ChangeShapes Go.RowKit

set_option maxHeartbeats 800000 in
theorem isReg_impl (a0 : Option Addr) (c0 : Nat) (xs : List Int) (w : World) (h0 : Ints w a0 c0 xs) (hl : xs.length ≤ 2000000) :
    Calls Try.prog 40 #[.slice a0 xs.length c0] w fun e w' => e = .returned (.bool (zcF xs).isSome) ∧ Below w.heap.size w w' := by
  have C1 := Lib.hid (fun w h => zc_impl a0 c0 xs w h hl)
  obtain ⟨rl, hrl⟩ : ∃ r, r = zcOf (zcF xs) := ⟨_, rfl⟩
  obtain ⟨rb, hrb⟩ : ∃ r, r = (zcF xs).isSome := ⟨_, rfl⟩
  rw [← hrl, ← hrb] at C1
  rw [← hrb]
  clear hrl hrb
  go_enter Try.func40, Try.ntmps40
  go_wp2_with fail
  refine (C1.out _ h0).mono ?_; rintro e w1 ⟨a1, c1, rfl, o1, b1⟩
  go_wp2_with fail
  go_ret
  exact ⟨rfl, b1⟩



end Go.Proofs.Ytokpgbpdmfibjaa
