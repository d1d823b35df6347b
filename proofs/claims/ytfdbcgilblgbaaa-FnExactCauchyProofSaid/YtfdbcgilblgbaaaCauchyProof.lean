/-
The program's CauchyProof returns what the reference's returns, for all arguments. No condition.
-/
import Derived.Test.YtfdbcgilblgbaaaCau
namespace Go.Proofs.Ytfdbcgilblgbaaa
open Go.ChangeShapes Go.RowKit

set_option maxHeartbeats 400000 in
theorem walk_fnExactCauchyProof (p a b : Int) (w : World) (_ : (Lit.int .i64 p).wf = true) (_ : (Lit.int .i64 a).wf = true) (_ : (Lit.int .i64 b).wf = true) :
    Calls Try.prog 12 #[.int .i64 p, .int .i64 a, .int .i64 b] w fun e w' => e = .returned (.bool true) ∧ Below w.heap.size w w' := by
  have C1 := Lib.hid (cp_spec p a b)
  have C2 := Lib.hid (cp_impl p a b)
  obtain ⟨r0, hr0⟩ : ∃ r, r = cpV p a b := ⟨_, rfl⟩
  rw [← hr0] at C1 C2
  clear hr0
  obtain ⟨r1, hr1⟩ : ∃ r, r = cpB p a b := ⟨_, rfl⟩
  rw [← hr1] at C1 C2
  clear hr1
  go_enter Try.func12, Try.ntmps12
  go_wp2_with fail
  refine (C1.out _).mono ?_; rintro e w1 ⟨rfl, b1⟩
  go_wp2_with fail
  refine (C2.out _).mono ?_; rintro e w2 ⟨rfl, b2⟩
  go_wp2_with fail
  go_ret
  exact ⟨rfl, nx b1 b2⟩


end Go.Proofs.Ytfdbcgilblgbaaa
