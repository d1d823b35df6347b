/-
The program's RadoNumber returns what the reference's returns, for all arguments. No condition.
-/
import Derived.Test.YtheeglaocflgmaaRdo
import Derived.Test.YtheeglaocflgmaaHelp
import Derived.Deep.RegionHeld3
namespace Go.Proofs.Ytheeglaocflgmaa
open Go.ChangeShapes Go.RowKit

set_option maxRecDepth 20000 in
set_option maxHeartbeats 1600000 in
theorem walk_fnExactRadoNumber (axs : Option Addr) (cxs : Nat) (xs : List Int) (k : Int) (w : World) (hxs : Ints w axs cxs xs) (_ : (Lit.int .i64 k).wf = true) :
    Calls Try.prog 11 #[.slice axs xs.length cxs, .int .i64 k] w fun e w' => e = .returned (.bool true) ∧ Below w.heap.size w w' := by
  have hmxs : xs.length ≤ 9223372036854775807 := by have := hxs.1; have := hxs.2.1; unfold maxLen at this; omega
  by_cases hbigxs : (1048576 : Int) < xs.length
  · clear hxs
    go_enter Try.func11, Try.ntmps11
    go_wp2_with fail
    go_ret
    exact ⟨rfl, Below.refl _ _⟩
  · have hlxs : xs.length ≤ 2000000 := by omega
    have C1 := Lib.hid (fun axs' cxs' w hxs' => ra_spec axs' cxs' xs k w hxs' hlxs)
    have C2 := Lib.hid (fun axs' cxs' w hxs' => ra_impl axs' cxs' xs k w hxs' hlxs)
    obtain ⟨r, hr⟩ : ∃ r, r = raV xs k := ⟨_, rfl⟩
    rw [← hr] at C1 C2
    clear hr
    go_enter Try.func11, Try.ntmps11
    have B_0 := Below.refl w.heap.size w
    go_wp2_with fail
    refine (toIntS_any axs cxs xs _ hxs hlxs).mono ?_
    rintro e w1 ⟨a_1, c_2, rfl, o_3, b_4⟩
    have h_5 := hxs.below b_4 (Nat.le_refl _)
    have B_6 := nx B_0 b_4
    clear hxs B_0 b_4
    go_wp2_with fail
    refine (C1.out _ _ _ ?hixs).mono ?_
    case hixs => exact o_3.ints
    rintro e w2 ⟨rfl, b_7⟩
    have h_8 := h_5.below b_7 (Nat.le_refl _)
    have B_9 := nx B_6 b_7
    clear h_5 B_6 b_7
    go_wp2_with fail
    refine (toIntS_any axs cxs xs _ h_8 hlxs).mono ?_
    rintro e w3 ⟨a_10, c_11, rfl, o_12, b_13⟩
    have h_14 := h_8.below b_13 (Nat.le_refl _)
    have B_15 := nx B_9 b_13
    clear h_8 B_9 b_13
    go_wp2_with fail
    refine (C2.out _ _ _ ?hixs).mono ?_
    case hixs => exact o_12.ints
    rintro e w4 ⟨rfl, b_16⟩
    have h_17 := h_14.below b_16 (Nat.le_refl _)
    have h_18 := o_12.below b_16 (Nat.le_refl _)
    have B_19 := nx B_15 b_16
    clear h_14 o_12 B_15 b_16
    go_wp2_with fail
    refine (toIntS_any axs cxs xs _ h_17 hlxs).mono ?_
    rintro e w5 ⟨a_20, c_21, rfl, o_22, b_23⟩
    have h_24 := h_17.below b_23 (Nat.le_refl _)
    have h_25 := h_18.below b_23 (Nat.le_refl _)
    have B_26 := nx B_19 b_23
    clear h_17 h_18 B_19 b_23
    go_wp2_with fail
    refine (eqIntS_refl a_10 a_20 c_11 c_21 xs _ h_25.ints o_22.ints hlxs).mono ?_
    rintro e w6 ⟨rfl, b_27⟩
    have h_28 := h_24.below b_27 (Nat.le_refl _)
    have h_29 := h_25.below b_27 (Nat.le_refl _)
    have B_30 := nx B_26 b_27
    clear h_24 h_25 B_26 b_27
    go_wp2_with fail
    go_ret
    exact ⟨rfl, B_30⟩


end Go.Proofs.Ytheeglaocflgmaa
