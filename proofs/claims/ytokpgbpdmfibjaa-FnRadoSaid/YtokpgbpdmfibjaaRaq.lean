/-
Plain laws of FnRado: each listed solution is one, the columns that are told add up to 0, solutions of one color have one, and colorings by digits have none. No condition.
-/
import Derived.Test.YtokpgbpdmfibjaaSlv8
import Derived.Test.YtokpgbpdmfibjaaRad
namespace Go.Proofs.Ytokpgbpdmfibjaa
open Go.RowKit Go.ChangeShapes
set_option linter.unusedVariables false

/-- A row of SolutionsIn. -/
theorem si_row {c : List Int} {n : Int} {z : List Int} (h : z ∈ siL c n) : siB c n = true ∧ z.length = c.length ∧ lin c z = 0 ∧ (∀ y ∈ z, 1 ≤ y ∧ y ≤ 12) ∧ (∀ x ∈ c, -9 ≤ x ∧ x ≤ 9) ∧ c.length ≤ 4 := by
  unfold siL at h
  split at h
  · rename_i hb
    obtain ⟨t, rfl, h1, h2, h3⟩ := solL_mem h
    have hb' := hb
    simp only [siB, Bool.and_eq_true, inB_true] at hb'
    obtain ⟨he, hn⟩ := hb'
    obtain ⟨l1, l2⟩ := eqn_bd he
    refine ⟨hb, by simpa using h1, h3, fun y hy => ?_, l2, l1⟩
    have := h2 y (by simpa using hy)
    omega
  · simp at h
/-- The sum of the chosen columns, by the list of their places. -/
def atS (c : List Int) (l : List Int) : Int := (l.map fun y : Int => c.getD y.toNat 0).sum
theorem atS_snoc (c l : List Int) (y : Int) : atS c (l ++ [y]) = atS c l + c.getD y.toNat 0 := by simp [atS]
theorem atS_mems (c : List Int) (m : Nat) : ∀ k, atS c (memsTo m k) = csum c m k
  | 0 => rfl
  | k + 1 => by
    have e1 : memsTo m (k + 1) = if m.testBit k = true then memsTo m k ++ [(k : Int)] else memsTo m k := by
      simp [memsTo]
    rw [e1]
    unfold csum
    split
    · rw [atS_snoc, atS_mems c m k]; simp
    · exact atS_mems c m k
theorem atS_take {c l : List Int} {k : Nat} (h : k < l.length) : atS c (l.take (k + 1)) = atS c (l.take k) + c.getD l[k].toNat 0 := by
  rw [List.take_succ_eq_append_getElem h, atS_snoc]
theorem fnd_some {p : Nat → Bool} : ∀ {f k m : Nat}, fnd p k f = some m → p m = true ∧ k ≤ m ∧ m < k + f
  | 0, _, _, h => by simp [fnd] at h
  | f + 1, k, m, h => by
    unfold fnd at h
    split at h
    · rename_i hp
      cases h; exact ⟨hp, by omega, by omega⟩
    · have := fnd_some h
      exact ⟨this.1, by omega, by omega⟩
/-- The columns that are told add up to 0. -/
theorem zc_sum (c : List Int) : atS c (zcOf (zcF c)) = 0 ∧ (∀ y ∈ zcOf (zcF c), 0 ≤ y ∧ y.toNat < c.length) ∧ ((zcF c).isSome = true → c.length ≤ 4 ∧ ∀ x ∈ c, -9 ≤ x ∧ x ≤ 9) ∧ ((zcF c).isSome = false → zcOf (zcF c) = []) := by
  cases e : zcF c with
  | none => exact ⟨rfl, by simp [zcOf], by simp, fun _ => rfl⟩
  | some m =>
    unfold zcF at e
    split at e
    · rename_i he
      obtain ⟨h1, h2, h3⟩ := fnd_some e
      obtain ⟨l1, l2⟩ := eqn_bd he
      have h4 : m < 2 ^ c.length := by have := Nat.two_pow_pos c.length; omega
      have hz : csum c m c.length = 0 := by simpa [zcp] using h1
      have hm : mems m = memsTo m c.length := by
        have := memsTo_end h4 (64 - c.length)
        rw [show c.length + (64 - c.length) = 64 by omega] at this
        exact this
      refine ⟨?_, ?_, fun _ => ⟨l1, l2⟩, by simp⟩
      · show atS c (mems m) = 0
        rw [hm, atS_mems]; exact hz
      · intro y hy
        have hy' : y ∈ mems m := hy
        rw [hm] at hy'
        obtain ⟨i, rfl, hi, _⟩ := memsTo_mem.1 hy'
        exact ⟨by omega, by simpa using hi⟩
    · cases e
theorem atS_bd (c : List Int) (hc : ∀ x ∈ c, -9 ≤ x ∧ x ≤ 9) : ∀ l : List Int, -(9 * (l.length : Int)) ≤ atS c l ∧ atS c l ≤ 9 * l.length
  | [] => by simp [atS]
  | y :: l => by
    have ih := atS_bd c hc l
    have h : -9 ≤ c.getD y.toNat 0 ∧ c.getD y.toNat 0 ≤ 9 := by
      by_cases hi : y.toNat < c.length
      · have e : c.getD y.toNat 0 = c[y.toNat] := by simp [List.getD, hi]
        rw [e]; exact hc _ (List.getElem_mem hi)
      · have e : c.getD y.toNat 0 = 0 := by simp [List.getD, List.getElem?_eq_none (Nat.le_of_not_lt hi)]
        rw [e]; omega
    simp only [atS, List.map_cons, List.sum_cons, List.length_cons] at ih ⊢
    omega
/-- A solution of one color. -/
theorem mo_row {c cs : List Int} (h : moB c cs = true) : (∀ y ∈ moL c cs, 1 ≤ y ∧ y ≤ (cs.length : Int)) ∧ ∀ y ∈ moL c cs, cs.getD (y - 1).toNat 0 = cs.getD ((moL c cs).headD 0 - 1).toNat 0 := by
  unfold moB at h
  obtain ⟨z, hz⟩ := Option.isSome_iff_exists.1 h
  have e : moL c cs = z := by unfold moL; rw [hz]; rfl
  rw [e]
  unfold moF at hz
  split at hz
  · have hm := List.mem_of_find?_eq_some hz
    have hp := List.find?_some hz
    obtain ⟨t, rfl, h1, h2, h3⟩ := solL_mem hm
    refine ⟨fun y hy => h2 y (by simpa using hy), ?_⟩
    simp only [mono, List.all_eq_true, beq_iff_eq] at hp
    exact hp
  · cases hz
theorem mo_none {c cs : List Int} (h : hasM c cs = false) : moB c cs = false := by
  unfold moB moF
  split
  · rw [hasM, List.any_eq_false] at h
    rw [List.find?_eq_none.2 h]
    rfl
  · rfl
theorem mo_nil {c cs : List Int} (h : moB c cs = false) : moL c cs = [] := by
  unfold moB at h
  unfold moL
  cases e : moF c cs with
  | none => rfl
  | some z => rw [e] at h; cases h
end Go.Proofs.Ytokpgbpdmfibjaa
