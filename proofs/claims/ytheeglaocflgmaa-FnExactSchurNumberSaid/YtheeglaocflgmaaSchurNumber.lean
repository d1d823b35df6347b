/-
The program's SchurNumber returns what the reference's returns, for all arguments. No condition.
-/
import Derived.Test.YtheeglaocflgmaaLng2
namespace Go.Proofs.Ytheeglaocflgmaa
open Go.ChangeShapes Go.RowKit

def snv (k : Int) : Int := if inB k 1 3 = true then (lgL k).length else -1

set_option maxHeartbeats 400000 in
theorem sn_spec (k : Int) (w : World) :
    Calls Try.prog 17 #[.int .i64 k] w fun e w' => e = .returned (.int .i64 (snv k)) ∧ Below w.heap.size w w' := by
  have C := Lib.hid (lg_spec k)
  unfold snv
  obtain ⟨r, hr⟩ : ∃ r, r = lgL k := ⟨_, rfl⟩
  rw [← hr] at C ⊢
  clear hr
  cases h : inB k 1 3 with
  | true =>
    rw [h] at C
    clear h
    go_enter Try.func17, Try.ntmps17
    go_wp2_with fail
    refine (C.out _).mono ?_; rintro e w1 ⟨a1, c1, rfl, o1, b1⟩
    go_wp2_with fail
    go_ret
    exact ⟨rfl, b1⟩
  | false =>
    rw [h] at C
    clear h
    go_enter Try.func17, Try.ntmps17
    go_wp2_with fail
    refine (C.out _).mono ?_; rintro e w1 ⟨a1, c1, rfl, o1, b1⟩
    go_wp2_with fail
    go_ret
    exact ⟨rfl, b1⟩

set_option maxHeartbeats 400000 in
theorem sn_impl (k : Int) (w : World) :
    Calls Try.prog 18 #[.int .i64 k] w fun e w' => e = .returned (.int .i64 (snv k)) ∧ Below w.heap.size w w' := by
  have C := Lib.hid (lg_impl k)
  unfold snv
  obtain ⟨r, hr⟩ : ∃ r, r = lgL k := ⟨_, rfl⟩
  rw [← hr] at C ⊢
  clear hr
  cases h : inB k 1 3 with
  | true =>
    rw [h] at C
    clear h
    go_enter Try.func18, Try.ntmps18
    go_wp2_with fail
    refine (C.out _).mono ?_; rintro e w1 ⟨a1, c1, rfl, o1, b1⟩
    go_wp2_with fail
    go_ret
    exact ⟨rfl, b1⟩
  | false =>
    rw [h] at C
    clear h
    go_enter Try.func18, Try.ntmps18
    go_wp2_with fail
    refine (C.out _).mono ?_; rintro e w1 ⟨a1, c1, rfl, o1, b1⟩
    go_wp2_with fail
    go_ret
    exact ⟨rfl, b1⟩

set_option maxHeartbeats 400000 in
theorem walk_fnExactSchurNumber (k : Int) (w : World) (_ : (Lit.int .i64 k).wf = true) :
    Calls Try.prog 4 #[.int .i64 k] w fun e w' => e = .returned (.bool true) ∧ Below w.heap.size w w' := by
  have C1 := Lib.hid (sn_spec k)
  have C2 := Lib.hid (sn_impl k)
  obtain ⟨r0, hr0⟩ : ∃ r, r = snv k := ⟨_, rfl⟩
  rw [← hr0] at C1 C2
  clear hr0
  go_enter Try.func4, Try.ntmps4
  go_wp2_with fail
  refine (C1.out _).mono ?_; rintro e w1 ⟨rfl, b1⟩
  go_wp2_with fail
  refine (C2.out _).mono ?_; rintro e w2 ⟨rfl, b2⟩
  go_wp2_with fail
  go_ret
  exact ⟨rfl, nx b1 b2⟩


end Go.Proofs.Ytheeglaocflgmaa
