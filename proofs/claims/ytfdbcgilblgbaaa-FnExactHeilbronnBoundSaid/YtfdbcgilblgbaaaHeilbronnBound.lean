/-
The program's HeilbronnBound returns what the reference's returns, for all arguments. No condition.
-/
import Derived.Test.YtfdbcgilblgbaaaNum
import Derived.Test.YtfdbcgilblgbaaaOpen
import Derived.WalkLawsBesides
namespace Go.Proofs.Ytfdbcgilblgbaaa
open Go.ChangeShapes Go.WideShapes Go.ChangeAt Go.RowKit
set_option linter.unusedVariables false

/-- What both return. -/
def hbv (p a b : Int) : Int := if prmB p = true ∧ inB a 1 p = true ∧ inB b 1 p = true then (if a = b then min p (2 * a - 3) else min p (a + b - 2)) else -1

theorem hb_ways (p a b : Int) : prmB p = false ∨ (prmB p = true ∧ inB a 1 p = false) ∨ (prmB p = true ∧ inB a 1 p = true ∧ inB b 1 p = false) ∨ (prmB p = true ∧ inB a 1 p = true ∧ inB b 1 p = true) := by
  cases prmB p <;> cases inB a 1 p <;> cases inB b 1 p <;> simp

set_option maxHeartbeats 400000 in
theorem hb_spec (p a b : Int) (w : World) :
    Calls Try.prog 15 #[.int .i64 p, .int .i64 a, .int .i64 b] w fun e w' => e = .returned (.int .i64 (hbv p a b)) ∧ w = w' := by
  rcases hb_ways p a b with h | ⟨h, h1⟩ | ⟨h, h1, h2⟩ | ⟨h, h1, h2⟩
  · have e : hbv p a b = -1 := by simp [hbv, h]
    rw [e]; clear e
    go_enter Try.func15, Try.ntmps15
    go_wp2_with fail
    refine (l26Prime_is p false h _).mono ?_; rintro e w' ⟨rfl, rfl⟩
    go_wp2_with fail
    go_ret
    exact ⟨rfl, rfl⟩
  · have e : hbv p a b = -1 := by simp [hbv, h1]
    rw [e]; clear e
    go_enter Try.func15, Try.ntmps15
    go_wp2_with fail
    refine (l26Prime_is p true h _).mono ?_; rintro e w' ⟨rfl, rfl⟩
    go_wp2_with fail
    refine (l1In_is a 1 p false h1 _).mono ?_; rintro e w' ⟨rfl, rfl⟩
    go_wp2_with fail
    go_ret
    exact ⟨rfl, rfl⟩
  · have e : hbv p a b = -1 := by simp [hbv, h2]
    rw [e]; clear e
    go_enter Try.func15, Try.ntmps15
    go_wp2_with fail
    refine (l26Prime_is p true h _).mono ?_; rintro e w' ⟨rfl, rfl⟩
    go_wp2_with fail
    refine (l1In_is a 1 p true h1 _).mono ?_; rintro e w' ⟨rfl, rfl⟩
    go_wp2_with fail
    refine (l1In_is b 1 p false h2 _).mono ?_; rintro e w' ⟨rfl, rfl⟩
    go_wp2_with fail
    go_ret
    exact ⟨rfl, rfl⟩
  · have e : hbv p a b = if a = b then min p (2 * a - 3) else min p (a + b - 2) := by simp [hbv, h, h1, h2]
    rw [e]; clear e
    obtain ⟨g1, g2⟩ := prm_bd h
    obtain ⟨g3, g4⟩ := inB_true.1 h1
    obtain ⟨g5, g6⟩ := inB_true.1 h2
    by_cases hab : a = b
    · subst hab
      rw [if_pos rfl]
      go_enter Try.func15, Try.ntmps15
      go_wp2_with fail
      refine (l26Prime_is p true h _).mono ?_; rintro e w' ⟨rfl, rfl⟩
      go_wp2_with fail
      refine (l1In_is a 1 p true h1 _).mono ?_; rintro e w' ⟨rfl, rfl⟩
      go_wp2_with fail
      refine (l1In_is a 1 p true h2 _).mono ?_; rintro e w' ⟨rfl, rfl⟩
      go_wp2_with fail
      all_goals (go_ret; exact ⟨ret_int (by omega), rfl⟩)
    · rw [if_neg hab]
      go_enter Try.func15, Try.ntmps15
      go_wp2_with fail
      refine (l26Prime_is p true h _).mono ?_; rintro e w' ⟨rfl, rfl⟩
      go_wp2_with fail
      refine (l1In_is a 1 p true h1 _).mono ?_; rintro e w' ⟨rfl, rfl⟩
      go_wp2_with fail
      refine (l1In_is b 1 p true h2 _).mono ?_; rintro e w' ⟨rfl, rfl⟩
      go_wp2_with fail
      all_goals (go_ret; exact ⟨ret_int (by omega), rfl⟩)

set_option maxHeartbeats 400000 in
theorem hb_impl (p a b : Int) (w : World) :
    Calls Try.prog 16 #[.int .i64 p, .int .i64 a, .int .i64 b] w fun e w' => e = .returned (.int .i64 (hbv p a b)) ∧ w = w' := by
  rcases hb_ways p a b with h | ⟨h, h1⟩ | ⟨h, h1, h2⟩ | ⟨h, h1, h2⟩
  · have e : hbv p a b = -1 := by simp [hbv, h]
    rw [e]; clear e
    go_enter Try.func16, Try.ntmps16
    go_wp2_with fail
    refine (isPrime_is p false h _).mono ?_; rintro e w' ⟨rfl, rfl⟩
    go_wp2_with fail
    go_ret
    exact ⟨rfl, rfl⟩
  · have e : hbv p a b = -1 := by simp [hbv, h1]
    rw [e]; clear e
    go_enter Try.func16, Try.ntmps16
    go_wp2_with fail
    refine (isPrime_is p true h _).mono ?_; rintro e w' ⟨rfl, rfl⟩
    go_wp2_with fail
    refine (within_is a 1 p false h1 _).mono ?_; rintro e w' ⟨rfl, rfl⟩
    go_wp2_with fail
    go_ret
    exact ⟨rfl, rfl⟩
  · have e : hbv p a b = -1 := by simp [hbv, h2]
    rw [e]; clear e
    go_enter Try.func16, Try.ntmps16
    go_wp2_with fail
    refine (isPrime_is p true h _).mono ?_; rintro e w' ⟨rfl, rfl⟩
    go_wp2_with fail
    refine (within_is a 1 p true h1 _).mono ?_; rintro e w' ⟨rfl, rfl⟩
    go_wp2_with fail
    refine (within_is b 1 p false h2 _).mono ?_; rintro e w' ⟨rfl, rfl⟩
    go_wp2_with fail
    go_ret
    exact ⟨rfl, rfl⟩
  · have e : hbv p a b = if a = b then min p (2 * a - 3) else min p (a + b - 2) := by simp [hbv, h, h1, h2]
    rw [e]; clear e
    obtain ⟨g1, g2⟩ := prm_bd h
    obtain ⟨g3, g4⟩ := inB_true.1 h1
    obtain ⟨g5, g6⟩ := inB_true.1 h2
    by_cases hab : a = b
    · subst hab
      rw [if_pos rfl]
      go_enter Try.func16, Try.ntmps16
      go_wp2_with fail
      refine (isPrime_is p true h _).mono ?_; rintro e w' ⟨rfl, rfl⟩
      go_wp2_with fail
      refine (within_is a 1 p true h1 _).mono ?_; rintro e w' ⟨rfl, rfl⟩
      go_wp2_with fail
      refine (within_is a 1 p true h2 _).mono ?_; rintro e w' ⟨rfl, rfl⟩
      go_wp2_with fail
      all_goals (go_ret; exact ⟨ret_int (by omega), rfl⟩)
    · rw [if_neg hab]
      go_enter Try.func16, Try.ntmps16
      go_wp2_with fail
      refine (isPrime_is p true h _).mono ?_; rintro e w' ⟨rfl, rfl⟩
      go_wp2_with fail
      refine (within_is a 1 p true h1 _).mono ?_; rintro e w' ⟨rfl, rfl⟩
      go_wp2_with fail
      refine (within_is b 1 p true h2 _).mono ?_; rintro e w' ⟨rfl, rfl⟩
      go_wp2_with fail
      all_goals (go_ret; exact ⟨ret_int (by omega), rfl⟩)

theorem walk_fnExactHeilbronnBound (p a b : Int) (w : World) (_ : (Lit.int .i64 p).wf = true) (_ : (Lit.int .i64 a).wf = true) (_ : (Lit.int .i64 b).wf = true) :
    Calls Try.prog 3 #[.int .i64 p, .int .i64 a, .int .i64 b] w fun e w' => e = .returned (.bool true) ∧ Below w.heap.size w w' := by
  obtain ⟨r, hr⟩ : ∃ r, r = hbv p a b := ⟨_, rfl⟩
  have c1 := hb_spec p a b
  have c2 := hb_impl p a b
  rw [← hr] at c1 c2
  have C1 := Lib.hid c1
  have C2 := Lib.hid c2
  clear c1 c2 hr
  go_enter Try.func3, Try.ntmps3
  go_wp2_with fail
  refine (C1.out _).mono ?_; rintro e w' ⟨rfl, rfl⟩
  go_wp2_with fail
  refine (C2.out _).mono ?_; rintro e w' ⟨rfl, rfl⟩
  go_wp2_with fail
  go_ret
  exact ⟨rfl, Below.refl _ _⟩

set_option maxRecDepth 100000 in
theorem lifted_fnExactHeilbronnBound (os : Os) (started : os.Started) (H : Type) (enc : TypeId × Value → H) :
    ReturnsInHanded {} Try.checked os 3 .any (Rows.fnExactHeilbronnBoundSpec.pre6 enc Try.prog Try.f3 Rows.fnExactHeilbronnBoundRow.domain false) (Rows.fnExactHeilbronnBoundSpec.post enc Try.prog Try.f3 false true false false) := by
  refine returnsInHanded_of_change (C := Try.checked) own started (by kernel_rfl) Try.func3
    (ChangeSpec.witness6 (enc := enc) (C := Try.checked) false ⟨#[], #[.int .i64 0, .int .i64 0, .int .i64 0], []⟩ 8 (by kernel_rfl) (by kernel_rfl) (by kernel_rfl) (by kernel_rfl)) ?_
  intro W base args ds gs before hval0 hW hcnd _
  have hval : ∀ (j : Nat) t v, Try.f3.params[j]? = some t → args[j]? = some v → Value.okWide Try.prog W .any base t v := hval0
  have hW' := hW
  obtain ⟨p, q, hA0, hV, rfl, hfz, hnd⟩ := hW
  have hA : DataW.TrodAll enc Try.prog W 0 (fun _ => true) true Try.f3.params.toList args.toList ds p := hA0
  rw [Try.params3] at hA hval
  obtain ⟨v0, vs0, d0, ds0, p0, q0, hargs, rfl, rfl, h0, r0⟩ := trodAll_cons hA
  obtain ⟨v1, vs1, d1, ds1, p1, q1, rfl, rfl, rfl, h1, r1⟩ := trodAll_cons r0
  obtain ⟨v2, vs2, d2, ds2, p2, q2, rfl, rfl, rfl, h2, r2⟩ := trodAll_cons r1
  obtain ⟨rfl, rfl, rfl⟩ := trodAll_nil r2
  obtain rfl : args = #[v0, v1, v2] := by cases args; simp_all
  obtain ⟨rfl, rfl⟩ := trodVars_none hV
  obtain ⟨x0, rfl, rfl, rfl, w0⟩ := open_int Try.underlying3 (hval 0 3 v0 rfl rfl) h0
  obtain ⟨x1, rfl, rfl, rfl, w1⟩ := open_int Try.underlying3 (hval 1 3 v1 rfl rfl) h1
  obtain ⟨x2, rfl, rfl, rfl, w2⟩ := open_int Try.underlying3 (hval 2 3 v2 rfl rfl) h2
  clear hA0 hval0
  try simp only [List.append_nil] at hW'
  refine (walk_fnExactHeilbronnBound x0 x1 x2 W w0 w1 w2).mono fun e W' ⟨he, bel⟩ => ?_
  subst he
  exact ⟨_, rfl, _, _, _, [], _, [], hW', trodAll_mk1 (shut_bool Try.underlying4 _), (trodAll_cons_mk (shut_int Try.underlying3 w0) (trodAll_cons_mk (shut_int Try.underlying3 w1) (trodAll_cons_mk (shut_int Try.underlying3 w2) trodAll_mk0))), rfl, bel.frame _, fun h => by cases h⟩

theorem over_fnExactHeilbronnBound : Rows.fnExactHeilbronnBoundRow.holds Try.pinned (OpenSpec.ofChange Rows.fnExactHeilbronnBoundSpec) :=
  OpenClaim.holds_of_wide 3 Try.f3 rfl rfl rfl rfl rfl rfl rfl ⟨rfl, rfl, rfl, rfl, rfl⟩ rfl rfl rfl rfl rfl (by kernel_rfl) Try.func3 (by kernel_rfl)
    (of_decide_eq_true (by kernel_rfl)) (by unfold Func.isWrapper; first | (rw [if_pos (by decide +kernel)]; kernel_rfl) | (rw [if_neg (by decide +kernel)]; exact ⟨rfl, rfl⟩))
    (fun os started H enc _ => lifted_fnExactHeilbronnBound os started H enc)

theorem holds_fnExactHeilbronnBound : Rows.FnExactHeilbronnBoundSaid := over_fnExactHeilbronnBound
#print axioms holds_fnExactHeilbronnBound
end Go.Proofs.Ytfdbcgilblgbaaa
