/-
The program's IsColoring returns what the reference's returns, for all arguments. No condition.
-/
import Derived.Test.YtfdbcgilblgbaaaCol
import Derived.Test.YtfdbcgilblgbaaaHelp
import Derived.Test.YtfdbcgilblgbaaaOpen
namespace Go.Proofs.Ytfdbcgilblgbaaa
open Go.ChangeShapes Go.WideShapes Go.ChangeAt Go.RowKit
set_option linter.unusedVariables false

set_option maxHeartbeats 800000 in
theorem walk_fnExactIsColoring (a0 : Option Addr) (c0 : Nat) (xs : List Int) (k : Int) (w : World) (h0 : Ints w a0 c0 xs) (_ : (Lit.int .i64 k).wf = true) :
    Calls Try.prog 4 #[.slice a0 xs.length c0, .int .i64 k] w fun e w' => e = .returned (.bool true) ∧ Below w.heap.size w w' := by
  by_cases hbig : (1048576 : Int) < xs.length
  · go_enter Try.func4, Try.ntmps4
    go_wp2_with fail
    go_ret
    exact ⟨rfl, Below.refl _ _⟩
  · have hl : xs.length ≤ 2000000 := by omega
    go_enter Try.func4, Try.ntmps4
    go_wp2_with fail
    refine (toIntS_any a0 c0 xs _ h0 hl).mono ?_; rintro e w1 ⟨a1, c1, rfl, o1, b1⟩
    go_wp2_with fail
    refine (isColoring_spec a1 c1 xs k _ o1.ints hl).mono ?_; rintro e w' ⟨rfl, rfl⟩
    go_wp2_with fail
    refine (toIntS_any a0 c0 xs _ (h0.below b1 (Nat.le_refl _)) hl).mono ?_; rintro e w2 ⟨a2, c2, rfl, o2, b2⟩
    go_wp2_with fail
    refine (isColoring_impl a2 c2 xs k _ o2.ints hl).mono ?_; rintro e w' ⟨rfl, rfl⟩
    go_wp2_with fail
    refine (toIntS_any a0 c0 xs _ ((h0.below b1 (Nat.le_refl _)).below b2 (Nat.le_refl _)) hl).mono ?_; rintro e w3 ⟨a3, c3, rfl, o3, b3⟩
    go_wp2_with fail
    refine (eqIntS_refl a2 a3 c2 c3 xs _ (o2.ints.below b3 (Nat.le_refl _)) o3.ints hl).mono ?_; rintro e w4 ⟨rfl, b4⟩
    go_wp2_with fail
    go_ret
    exact ⟨rfl, nx (nx (nx b1 b2) b3) b4⟩


end Go.Proofs.Ytfdbcgilblgbaaa
