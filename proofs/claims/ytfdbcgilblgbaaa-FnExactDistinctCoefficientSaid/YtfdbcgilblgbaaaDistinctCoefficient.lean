/-
The program's DistinctCoefficient returns what the reference's returns, for all arguments. No condition.
-/
import Derived.Test.YtfdbcgilblgbaaaCoef
namespace Go.Proofs.Ytfdbcgilblgbaaa
open Go.ChangeShapes Go.RowKit

set_option maxHeartbeats 400000 in
theorem walk_fnExactDistinctCoefficient (i k p : Int) (w : World) (_ : (Lit.int .i64 i).wf = true) (_ : (Lit.int .i64 k).wf = true) (_ : (Lit.int .i64 p).wf = true) :
    Calls Try.prog 11 #[.int .i64 i, .int .i64 k, .int .i64 p] w fun e w' => e = .returned (.bool true) ∧ Below w.heap.size w w' := by
  have C1 := Lib.hid (dcv_spec i k p)
  have C2 := Lib.hid (dcv_impl i k p)
  obtain ⟨r0, hr0⟩ : ∃ r, r = dcv i k p := ⟨_, rfl⟩
  rw [← hr0] at C1 C2
  clear hr0
  go_enter Try.func11, Try.ntmps11
  go_wp2_with fail
  refine (C1.out _).mono ?_; rintro e w1 ⟨rfl, b1⟩
  go_wp2_with fail
  refine (C2.out _).mono ?_; rintro e w2 ⟨rfl, b2⟩
  go_wp2_with fail
  go_ret
  exact ⟨rfl, nx b1 b2⟩


end Go.Proofs.Ytfdbcgilblgbaaa
