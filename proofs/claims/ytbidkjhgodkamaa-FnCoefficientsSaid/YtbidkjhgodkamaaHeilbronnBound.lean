/-
The program's HeilbronnBound returns what the reference's returns, for all arguments. No condition.
-/
import Derived.Test.YtbidkjhgodkamaaNum
import Derived.Test.YtbidkjhgodkamaaOpen
import Derived.WalkLawsBesides
namespace Go.Proofs.Ytbidkjhgodkamaa
open Go.ChangeShapes Go.WideShapes Go.ChangeAt Go.RowKit
set_option linter.unusedVariables false

/-- What both return. -/
def hbv (p a b : Int) : Int := if prmB p = true ∧ inB a 1 p = true ∧ inB b 1 p = true then (if a = b then min p (2 * a - 3) else min p (a + b - 2)) else -1

theorem hb_ways (p a b : Int) : prmB p = false ∨ (prmB p = true ∧ inB a 1 p = false) ∨ (prmB p = true ∧ inB a 1 p = true ∧ inB b 1 p = false) ∨ (prmB p = true ∧ inB a 1 p = true ∧ inB b 1 p = true) := by
  cases prmB p <;> cases inB a 1 p <;> cases inB b 1 p <;> simp

set_option maxHeartbeats 400000 in
theorem hb_spec (p a b : Int) (w : World) :
    Calls Try.prog 146 #[.int .i64 p, .int .i64 a, .int .i64 b] w fun e w' => e = .returned (.int .i64 (hbv p a b)) ∧ w = w' := by
  rcases hb_ways p a b with h | ⟨h, h1⟩ | ⟨h, h1, h2⟩ | ⟨h, h1, h2⟩
  · have e : hbv p a b = -1 := by simp [hbv, h]
    rw [e]; clear e
    go_enter Try.func146, Try.ntmps146
    go_wp2_with fail
    refine (l26Prime_is p false h _).mono ?_; rintro e w' ⟨rfl, rfl⟩
    go_wp2_with fail
    go_ret
    exact ⟨rfl, rfl⟩
  · have e : hbv p a b = -1 := by simp [hbv, h1]
    rw [e]; clear e
    go_enter Try.func146, Try.ntmps146
    go_wp2_with fail
    refine (l26Prime_is p true h _).mono ?_; rintro e w' ⟨rfl, rfl⟩
    go_wp2_with fail
    refine (l1In_is a 1 p false h1 _).mono ?_; rintro e w' ⟨rfl, rfl⟩
    go_wp2_with fail
    go_ret
    exact ⟨rfl, rfl⟩
  · have e : hbv p a b = -1 := by simp [hbv, h2]
    rw [e]; clear e
    go_enter Try.func146, Try.ntmps146
    go_wp2_with fail
    refine (l26Prime_is p true h _).mono ?_; rintro e w' ⟨rfl, rfl⟩
    go_wp2_with fail
    refine (l1In_is a 1 p true h1 _).mono ?_; rintro e w' ⟨rfl, rfl⟩
    go_wp2_with fail
    refine (l1In_is b 1 p false h2 _).mono ?_; rintro e w' ⟨rfl, rfl⟩
    go_wp2_with fail
    go_ret
    exact ⟨rfl, rfl⟩
  · have e : hbv p a b = if a = b then min p (2 * a - 3) else min p (a + b - 2) := by simp [hbv, h, h1, h2]
    rw [e]; clear e
    obtain ⟨g1, g2⟩ := prm_bd h
    obtain ⟨g3, g4⟩ := inB_true.1 h1
    obtain ⟨g5, g6⟩ := inB_true.1 h2
    by_cases hab : a = b
    · subst hab
      rw [if_pos rfl]
      go_enter Try.func146, Try.ntmps146
      go_wp2_with fail
      refine (l26Prime_is p true h _).mono ?_; rintro e w' ⟨rfl, rfl⟩
      go_wp2_with fail
      refine (l1In_is a 1 p true h1 _).mono ?_; rintro e w' ⟨rfl, rfl⟩
      go_wp2_with fail
      refine (l1In_is a 1 p true h2 _).mono ?_; rintro e w' ⟨rfl, rfl⟩
      go_wp2_with fail
      all_goals (go_ret; exact ⟨ret_int (by omega), rfl⟩)
    · rw [if_neg hab]
      go_enter Try.func146, Try.ntmps146
      go_wp2_with fail
      refine (l26Prime_is p true h _).mono ?_; rintro e w' ⟨rfl, rfl⟩
      go_wp2_with fail
      refine (l1In_is a 1 p true h1 _).mono ?_; rintro e w' ⟨rfl, rfl⟩
      go_wp2_with fail
      refine (l1In_is b 1 p true h2 _).mono ?_; rintro e w' ⟨rfl, rfl⟩
      go_wp2_with fail
      all_goals (go_ret; exact ⟨ret_int (by omega), rfl⟩)

set_option maxHeartbeats 400000 in
theorem hb_impl (p a b : Int) (w : World) :
    Calls Try.prog 132 #[.int .i64 p, .int .i64 a, .int .i64 b] w fun e w' => e = .returned (.int .i64 (hbv p a b)) ∧ w = w' := by
  rcases hb_ways p a b with h | ⟨h, h1⟩ | ⟨h, h1, h2⟩ | ⟨h, h1, h2⟩
  · have e : hbv p a b = -1 := by simp [hbv, h]
    rw [e]; clear e
    go_enter Try.func132, Try.ntmps132
    go_wp2_with fail
    refine (isPrime_is p false h _).mono ?_; rintro e w' ⟨rfl, rfl⟩
    go_wp2_with fail
    go_ret
    exact ⟨rfl, rfl⟩
  · have e : hbv p a b = -1 := by simp [hbv, h1]
    rw [e]; clear e
    go_enter Try.func132, Try.ntmps132
    go_wp2_with fail
    refine (isPrime_is p true h _).mono ?_; rintro e w' ⟨rfl, rfl⟩
    go_wp2_with fail
    refine (within_is a 1 p false h1 _).mono ?_; rintro e w' ⟨rfl, rfl⟩
    go_wp2_with fail
    go_ret
    exact ⟨rfl, rfl⟩
  · have e : hbv p a b = -1 := by simp [hbv, h2]
    rw [e]; clear e
    go_enter Try.func132, Try.ntmps132
    go_wp2_with fail
    refine (isPrime_is p true h _).mono ?_; rintro e w' ⟨rfl, rfl⟩
    go_wp2_with fail
    refine (within_is a 1 p true h1 _).mono ?_; rintro e w' ⟨rfl, rfl⟩
    go_wp2_with fail
    refine (within_is b 1 p false h2 _).mono ?_; rintro e w' ⟨rfl, rfl⟩
    go_wp2_with fail
    go_ret
    exact ⟨rfl, rfl⟩
  · have e : hbv p a b = if a = b then min p (2 * a - 3) else min p (a + b - 2) := by simp [hbv, h, h1, h2]
    rw [e]; clear e
    obtain ⟨g1, g2⟩ := prm_bd h
    obtain ⟨g3, g4⟩ := inB_true.1 h1
    obtain ⟨g5, g6⟩ := inB_true.1 h2
    by_cases hab : a = b
    · subst hab
      rw [if_pos rfl]
      go_enter Try.func132, Try.ntmps132
      go_wp2_with fail
      refine (isPrime_is p true h _).mono ?_; rintro e w' ⟨rfl, rfl⟩
      go_wp2_with fail
      refine (within_is a 1 p true h1 _).mono ?_; rintro e w' ⟨rfl, rfl⟩
      go_wp2_with fail
      refine (within_is a 1 p true h2 _).mono ?_; rintro e w' ⟨rfl, rfl⟩
      go_wp2_with fail
      all_goals (go_ret; exact ⟨ret_int (by omega), rfl⟩)
    · rw [if_neg hab]
      go_enter Try.func132, Try.ntmps132
      go_wp2_with fail
      refine (isPrime_is p true h _).mono ?_; rintro e w' ⟨rfl, rfl⟩
      go_wp2_with fail
      refine (within_is a 1 p true h1 _).mono ?_; rintro e w' ⟨rfl, rfl⟩
      go_wp2_with fail
      refine (within_is b 1 p true h2 _).mono ?_; rintro e w' ⟨rfl, rfl⟩
      go_wp2_with fail
      all_goals (go_ret; exact ⟨ret_int (by omega), rfl⟩)


end Go.Proofs.Ytbidkjhgodkamaa
