/-
Contracts of both SchurTriples: the first x, y and x + y of one color, by x + y and then by x. Conditions: lengths at most 2000000.
-/
import Derived.Test.YtheeglaocflgmaaInts2
namespace Go.Proofs.Ytheeglaocflgmaa
open Go.RowKit Go.ChangeShapes

/-- x, z - x and z have one color. -/
def hitS (xs : List Int) (z x : Nat) : Prop := xs[x - 1]? = xs[z - 1]? ∧ xs[z - x - 1]? = xs[z - 1]?
/-- No triple ahead of (zz, xx). -/
def SchNo (xs : List Int) (zz xx : Nat) : Prop := ∀ z x, 2 ≤ z → z ≤ xs.length → 1 ≤ x → 2 * x ≤ z → (z < zz ∨ z = zz ∧ x < xx) → ¬ hitS xs z x
def SchAt (xs : List Int) (p : Nat × Nat) : Prop := 2 ≤ p.1 ∧ p.1 ≤ xs.length ∧ 1 ≤ p.2 ∧ 2 * p.2 ≤ p.1 ∧ hitS xs p.1 p.2 ∧ SchNo xs p.1 p.2

open Classical in
/-- The first triple. -/
noncomputable def schv (xs : List Int) : Option (Nat × Nat) := if h : ∃ p, SchAt xs p then some h.choose else none

theorem schv_some {xs : List Int} {z x : Nat} (h : SchAt xs (z, x)) : schv xs = some (z, x) := by
  have hex : ∃ p, SchAt xs p := ⟨_, h⟩
  unfold schv
  rw [dif_pos hex]
  have h2 := hex.choose_spec
  generalize hex.choose = q at h2
  obtain ⟨z', x'⟩ := q
  obtain ⟨a1, a2, a3, a4, a5, a6⟩ := h
  obtain ⟨b1, b2, b3, b4, b5, b6⟩ := h2
  have n1 : ¬ (z < z' ∨ z = z' ∧ x < x') := fun hh => b6 z x a1 a2 a3 a4 hh a5
  have n2 : ¬ (z' < z ∨ z' = z ∧ x' < x) := fun hh => a6 z' x' b1 b2 b3 b4 hh b5
  have e1 : z' = z := by omega
  have e2 : x' = x := by omega
  rw [e1, e2]
theorem schv_none {xs : List Int} (h : SchNo xs (xs.length + 1) 0) : schv xs = none := by
  unfold schv
  rw [dif_neg]
  rintro ⟨⟨z, x⟩, b1, b2, b3, b4, b5, b6⟩
  exact h z x b1 b2 b3 b4 (by left; simp at b2; omega) b5

/-- What both return. -/
noncomputable def schL (xs : List Int) : List Int := if 40 < xs.length then [] else match schv xs with
  | some (z, x) => [(x : Int), (z : Int) - x, z]
  | none => []
noncomputable def schB (xs : List Int) : Bool := if 40 < xs.length then false else (schv xs).isSome
theorem schL_len (xs : List Int) : (schL xs).length ≤ 3 := by
  unfold schL
  split
  · simp
  · split <;> simp

theorem SchNo.start (xs : List Int) : SchNo xs 2 1 := fun z x h1 _ h3 _ h5 => by omega
theorem SchNo.x {xs : List Int} {z x : Nat} (h : SchNo xs z x) (hn : ¬ hitS xs z x) : SchNo xs z (x + 1) := by
  intro z' x' h1 h2 h3 h4 h5
  by_cases e : z' = z ∧ x' = x
  · rw [e.1, e.2]; exact hn
  · exact h z' x' h1 h2 h3 h4 (by omega)
theorem SchNo.z {xs : List Int} {z x : Nat} (h : SchNo xs z x) (hx : z < 2 * x) : SchNo xs (z + 1) 1 := by
  intro z' x' h1 h2 h3 h4 h5
  exact h z' x' h1 h2 h3 h4 (by omega)



end Go.Proofs.Ytheeglaocflgmaa
