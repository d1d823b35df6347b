/-
Contract of the marking of a group's orders. Conditions: at most 1000000 orders, small marks.
-/
import Derived.Test.YtpkokhdkhcdgpaaHelp
import Derived.Test.YtpkokhdkhcdgpaaGrp
import Derived.Test.YtpkokhdkhcdgpaaCau2
import Derived.Test.YtpkokhdkhcdgpaaImg
namespace Go.Proofs.Ytpkokhdkhcdgpaa
open Go.RowKit Go.ChangeShapes
set_option linter.unusedVariables false

theorem atL_row (os : List Int) (i : Nat) : ((atL os).getD i []).length ≤ 24 := by
  by_cases h : atB os = true
  · rw [show atL os = autL os by simp [atL, h]]
    by_cases hi : i < (autL os).length
    · have hm : autB os ((autL os).getD i []) = true := by
        rw [List.getD_eq_getElem?_getD, List.getElem?_eq_getElem hi]
        exact auGo_mem (d := os.length) (im := []) _ (List.getElem_mem hi)
      exact (aut_parts hm).2.2.1.1
    · rw [List.getD_eq_getElem?_getD, List.getElem?_eq_none (by omega)]; simp
  · rw [show atL os = [] by simp [atL, h]]; simp
theorem sumL_le {R : Nat → List Int} {m : Nat} (h : ∀ i, (R i).length ≤ m) : ∀ n, sumL R n ≤ n * m
  | 0 => by simp [sumL]
  | n + 1 => by
    have := sumL_le h n
    have := h n
    rw [Nat.succ_mul]
    simp only [sumL]
    omega

set_option maxHeartbeats 800000 in
theorem markGroup_any (B : Nat) (a0 : Option Addr) (c0 : Nat) (xs : List Int) (m : Nat) (w : World) (h0 : OwnI w B a0 c0 xs) (hB : B ≤ w.heap.size) (hl : xs.length ≤ 1100000) (hm : m ≤ 1000) :
    Calls Try.prog 33 #[.agg #[.slice a0 xs.length c0], .int .i64 (m : Int)] w fun e w' => e = .returned (.int .i64 ((m : Int) + (xs.length : Int))) ∧ Below B w w' ∧ w.grownBy w' (a0.map (·.block)) := by
  have hb0 := (Below.refl w.heap.size w).alloc (Nat.le_refl _) (.cells #[.slice a0 xs.length c0] 27)
  have h1 := h0.below hb0 (Nat.le_refl _)
  have C := Lib.hid (fun w h hB => markIntS_any B a0 c0 xs (m : Int) w h hB (by omega) (by omega) (by omega))
  go_enter Try.func33, Try.ntmps33
  go_wp2_with fail
  refine (C.out _ h1 (by simp; omega)).mono ?_; rintro e w1 ⟨rfl, o1, b1, g1⟩
  go_wp2_with fail
  go_ret
  exact ⟨rfl, (hb0.mono hB).trans b1, grown_trans (World.grownBy_alloc _ _ _) g1⟩
end Go.Proofs.Ytpkokhdkhcdgpaa
