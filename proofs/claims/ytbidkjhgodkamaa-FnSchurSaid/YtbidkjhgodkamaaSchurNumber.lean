/-
The program's SchurNumber returns what the reference's returns, for all arguments. No condition.
-/
import Derived.Test.YtbidkjhgodkamaaLng2
namespace Go.Proofs.Ytbidkjhgodkamaa
open Go.ChangeShapes Go.RowKit

def snv (k : Int) : Int := if inB k 1 3 = true then (lgL k).length else -1

set_option maxHeartbeats 400000 in
theorem sn_spec (k : Int) (w : World) :
    Calls Try.prog 98 #[.int .i64 k] w fun e w' => e = .returned (.int .i64 (snv k)) ∧ Below w.heap.size w w' := by
  have C := Lib.hid (lg_spec k)
  unfold snv
  obtain ⟨r, hr⟩ : ∃ r, r = lgL k := ⟨_, rfl⟩
  rw [← hr] at C ⊢
  clear hr
  cases h : inB k 1 3 with
  | true =>
    rw [h] at C
    clear h
    go_enter Try.func98, Try.ntmps98
    go_wp2_with fail
    refine (C.out _).mono ?_; rintro e w1 ⟨a1, c1, rfl, o1, b1⟩
    go_wp2_with fail
    go_ret
    exact ⟨rfl, b1⟩
  | false =>
    rw [h] at C
    clear h
    go_enter Try.func98, Try.ntmps98
    go_wp2_with fail
    refine (C.out _).mono ?_; rintro e w1 ⟨a1, c1, rfl, o1, b1⟩
    go_wp2_with fail
    go_ret
    exact ⟨rfl, b1⟩

set_option maxHeartbeats 400000 in
theorem sn_impl (k : Int) (w : World) :
    Calls Try.prog 97 #[.int .i64 k] w fun e w' => e = .returned (.int .i64 (snv k)) ∧ Below w.heap.size w w' := by
  have C := Lib.hid (lg_impl k)
  unfold snv
  obtain ⟨r, hr⟩ : ∃ r, r = lgL k := ⟨_, rfl⟩
  rw [← hr] at C ⊢
  clear hr
  cases h : inB k 1 3 with
  | true =>
    rw [h] at C
    clear h
    go_enter Try.func97, Try.ntmps97
    go_wp2_with fail
    refine (C.out _).mono ?_; rintro e w1 ⟨a1, c1, rfl, o1, b1⟩
    go_wp2_with fail
    go_ret
    exact ⟨rfl, b1⟩
  | false =>
    rw [h] at C
    clear h
    go_enter Try.func97, Try.ntmps97
    go_wp2_with fail
    refine (C.out _).mono ?_; rintro e w1 ⟨a1, c1, rfl, o1, b1⟩
    go_wp2_with fail
    go_ret
    exact ⟨rfl, b1⟩


end Go.Proofs.Ytbidkjhgodkamaa
