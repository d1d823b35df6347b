/-
The program's IsZeroGrid returns what the reference's returns, for all arguments. No condition.
-/
import Derived.Test.YtheeglaocflgmaaZgr
namespace Go.Proofs.Ytheeglaocflgmaa
open Go.ChangeShapes Go.RowKit

set_option maxHeartbeats 800000 in
theorem walk_fnExactIsZeroGrid (p a b c : Int) (w : World) (hp : (Lit.int .i64 p).wf = true) (ha : (Lit.int .i64 a).wf = true) (hb : (Lit.int .i64 b).wf = true) (hc : (Lit.int .i64 c).wf = true) :
    Calls Try.prog 12 #[.int .i64 p, .int .i64 a, .int .i64 b, .int .i64 c] w fun e w' => e = .returned (.bool true) ∧ Below w.heap.size w w' := by
  have C1 := Lib.hid (fun w => zg_spec p a b c w hp)
  have C2 := Lib.hid (fun w => zg_impl p a b c w hp ha hb hc)
  obtain ⟨r, hr⟩ : ∃ r, r = zgB p a b c := ⟨_, rfl⟩
  rw [← hr] at C1 C2
  clear hr hp ha hb hc
  go_enter Try.func12, Try.ntmps12
  go_wp2_with fail
  refine (C1.out _).mono ?_; rintro e w1 ⟨rfl, b1⟩
  go_wp2_with fail
  refine (C2.out _).mono ?_; rintro e w2 ⟨rfl, b2⟩
  go_wp2_with fail
  go_ret
  exact ⟨rfl, nx b1 b2⟩

end Go.Proofs.Ytheeglaocflgmaa
