/-
The program's LongestColoring returns what the reference's returns, for all arguments. No condition.
-/
import Derived.Test.YtheeglaocflgmaaLng2
import Derived.Test.YtheeglaocflgmaaHelp
namespace Go.Proofs.Ytheeglaocflgmaa
open Go.ChangeShapes Go.RowKit

set_option maxHeartbeats 800000 in
theorem walk_fnExactLongestColoring (k : Int) (w : World) (_ : (Lit.int .i64 k).wf = true) :
    Calls Try.prog 5 #[.int .i64 k] w fun e w' => e = .returned (.bool true) ∧ Below w.heap.size w w' := by
  obtain ⟨r, hr⟩ : ∃ r, r = lgL k := ⟨_, rfl⟩
  obtain ⟨rb, hrb⟩ : ∃ r, r = inB k 1 3 := ⟨_, rfl⟩
  have hl : r.length ≤ 2000000 := by rw [hr]; exact lgL_len k
  have C1 := Lib.hid (lg_spec k)
  have C2 := Lib.hid (lg_impl k)
  rw [← hr, ← hrb] at C1 C2
  clear hr hrb
  go_enter Try.func5, Try.ntmps5
  go_wp2_with fail
  refine (C1.out _).mono ?_; rintro e w1 ⟨a1, c1, rfl, o1, b1⟩
  go_wp2_with fail
  refine (C2.out _).mono ?_; rintro e w2 ⟨a2, c2, rfl, o2, b2⟩
  go_wp2_with fail
  have o1' := o1.below b2 (Nat.le_refl _)
  have l1 := o1.lt
  refine (eqIntS_refl a2 a1 c2 c1 r _ o2.ints o1'.ints hl).mono ?_; rintro e w3 ⟨rfl, b3⟩
  go_wp2_with fail
  have o1'' := o1'.below b3 (Nat.le_refl _)
  have o2' := o2.below b3 (Nat.le_refl _)
  have hsz : w1.heap.size ≤ w3.heap.size := Nat.le_trans b2.size b3.size
  refine (markIntS_any w1.heap.size a2 c2 r 1 _ o2' hsz hl (by omega) (by omega)).mono ?_; rintro e w4 ⟨rfl, o4, b4, _⟩
  go_wp2_with fail
  have hin := o4.ints
  have o1d := o1''.below' b4 (fun x hx => (l1 x hx).2)
  refine (heldIntS_any a2 c2 1 r.length _ hin hl (by omega) (by omega)).mono ?_; rintro e w5 ⟨rfl, b5⟩
  go_wp2_with fail
  have o1e := o1d.below b5 (Nat.le_refl _)
  have o4' := o4.below b5 (Nat.le_refl _)
  refine (C2.out _).mono ?_; rintro e w6 ⟨a6, c6, rfl, o6, b6⟩
  go_wp2_with fail
  have o1f := o1e.below b6 (Nat.le_refl _)
  have o4'' := o4'.below b6 (Nat.le_refl _)
  refine (eqIntS_refl a6 a1 c6 c1 r _ o6.ints o1f.ints hl).mono ?_; rintro e w7 ⟨rfl, b7⟩
  go_wp2_with fail
  have o4d := o4''.below b7 (Nat.le_refl _)
  refine (heldIntS_any a2 c2 1 r.length _ o4d.ints hl (by omega) (by omega)).mono ?_; rintro e w8 ⟨rfl, b8⟩
  go_wp2_with fail
  go_ret
  exact ⟨rfl, nx (nx (nx (nx ((nx (nx b1 b2) b3).trans (b4.mono b1.size)) b5) b6) b7) b8⟩


end Go.Proofs.Ytheeglaocflgmaa
