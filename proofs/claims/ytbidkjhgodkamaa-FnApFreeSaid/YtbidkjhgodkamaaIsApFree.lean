/-
The program's IsApFree returns what the reference's returns, for all arguments. No condition.
-/
import Derived.Test.YtbidkjhgodkamaaTri2
import Derived.Deep.RegionHeld3
namespace Go.Proofs.Ytbidkjhgodkamaa
open Go.ChangeShapes Go.RowKit


set_option maxHeartbeats 800000 in
theorem apf_impl (a0 : Option Addr) (c0 : Nat) (os : List Int) (a : Int) (w : World) (h0 : Ints w a0 c0 os) (hl : os.length ≤ 2000000) :
    Calls Try.prog 114 #[.agg #[.slice a0 os.length c0], .int .i64 a] w fun e w' => e = .returned (.bool (triV os a == 0)) ∧ Below w.heap.size w w' := by
  have hb0 := (Below.refl w.heap.size w).alloc (Nat.le_refl _) (.cells #[.slice a0 os.length c0] 26)
  have h1 := h0.below hb0 (Nat.le_refl _)
  have C := Lib.hid (fun w h => tri_impl a0 c0 os a w h hl)
  obtain ⟨r, hr⟩ : ∃ r, r = triV os a := ⟨_, rfl⟩
  rw [← hr] at C ⊢
  clear hr
  go_enter Try.func114, Try.ntmps114
  go_wp2_with fail
  refine (C.out _ h1).mono ?_; rintro e w1 ⟨rfl, b1⟩
  go_wp2_with fail
  go_ret
  exact ⟨rfl, nx hb0 b1⟩


end Go.Proofs.Ytbidkjhgodkamaa
