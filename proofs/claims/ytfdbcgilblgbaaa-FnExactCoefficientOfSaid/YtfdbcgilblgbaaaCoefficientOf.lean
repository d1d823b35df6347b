/-
The program's CoefficientOf returns what the reference's returns, for all arguments. No condition.
-/
import Derived.Test.YtfdbcgilblgbaaaCoef
namespace Go.Proofs.Ytfdbcgilblgbaaa
open Go.ChangeShapes Go.RowKit

set_option maxHeartbeats 400000 in
theorem walk_fnExactCoefficientOf (n i k p : Int) (w : World) (_ : (Lit.int .i64 n).wf = true) (_ : (Lit.int .i64 i).wf = true) (_ : (Lit.int .i64 k).wf = true) (_ : (Lit.int .i64 p).wf = true) :
    Calls Try.prog 9 #[.int .i64 n, .int .i64 i, .int .i64 k, .int .i64 p] w fun e w' => e = .returned (.bool true) ∧ Below w.heap.size w w' := by
  have C1 := Lib.hid (cov_spec n i k p)
  have C2 := Lib.hid (cov_impl n i k p)
  obtain ⟨r0, hr0⟩ : ∃ r, r = cov n i k p := ⟨_, rfl⟩
  rw [← hr0] at C1 C2
  clear hr0
  go_enter Try.func9, Try.ntmps9
  go_wp2_with fail
  refine (C1.out _).mono ?_; rintro e w1 ⟨rfl, b1⟩
  go_wp2_with fail
  refine (C2.out _).mono ?_; rintro e w2 ⟨rfl, b2⟩
  go_wp2_with fail
  go_ret
  exact ⟨rfl, nx b1 b2⟩


end Go.Proofs.Ytfdbcgilblgbaaa
