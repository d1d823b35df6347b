/-
Contracts of both sides' FindDifferenceSet: the first set in the order of a search. Conditions: lengths at most 2000000.
-/
import Derived.Test.YtokpgbpdmfibjaaCor
import Derived.Test.YtokpgbpdmfibjaaSrch
import Derived.Test.YtokpgbpdmfibjaaSto
import Derived.Laws.EntriesVeiled
namespace Go.Proofs.Ytokpgbpdmfibjaa
open Go.RowKit Go.ChangeShapes
set_option linter.unusedVariables false

/-- The first set with some more elements that has the property. -/
def fdO (P : Nat → Bool) (N : Nat) : Nat → Nat → Nat → Option Nat
  | 0, 0, a => if P a = true then some a else none
  | 0, _ + 1, _ => none
  | _ + 1, 0, a => if P a = true then some a else none
  | d + 1, left + 1, a => match fdO P N d left (a ||| 2 ^ (N - (d + 1))) with
    | some b => some b
    | none => fdO P N d (left + 1) a
theorem fdO_zero (P : Nat → Bool) (N d a : Nat) : fdO P N d 0 a = if P a = true then some a else none := by cases d <;> rfl
theorem fdO_lt (P : Nat → Bool) (N : Nat) : ∀ d left a b, d ≤ N → a < 2 ^ (N - d) → fdO P N d left a = some b → b < 2 ^ N
  | d, 0, a, b, hd, ha, h => by
    rw [fdO_zero] at h
    split at h
    · cases h; exact Nat.lt_of_lt_of_le ha (Nat.pow_le_pow_right (by decide) (by omega))
    · cases h
  | 0, _ + 1, _, _, _, _, h => by cases h
  | d + 1, left + 1, a, b, hd, ha, h => by
    have hx1 : N - d = N - (d + 1) + 1 := by omega
    have hb : a ||| 2 ^ (N - (d + 1)) < 2 ^ (N - d) := by rw [hx1]; exact or_bit_lt ha
    have ha' : a < 2 ^ (N - d) := by rw [hx1]; exact Nat.lt_of_lt_of_le ha (Nat.pow_le_pow_right (by decide) (by omega))
    unfold fdO at h
    split at h
    · rename_i c hc
      cases h
      exact fdO_lt P N d left _ _ (by omega) hb hc
    · exact fdO_lt P N d (left + 1) a b (by omega) ha' h
/-- What the reference's search hands back. -/
def FoundR (o : Option Nat) (w : World) (e : Ending) (w' : World) : Prop :=
  ∃ v : Nat, e = .returned (.tuple #[.int .i64 (v : Int), .bool o.isSome]) ∧ v < 16777216 ∧ (∀ b, o = some b → v = b) ∧ Below w.heap.size w w'
/-- The state of the search with one more place to go. -/
theorem fd_facts {P : Nat → Bool} {N d left a fr : Nat} {o : Option Nat} (hN : N ≤ 24) (hd : d + 1 + fr ≤ N) (ha : a < 2 ^ fr) (h : fdO P N (d + 1) (left + 1) a = o) :
    ∃ x c T : Nat, x = N - (d + 1) ∧ x + d + 1 ≤ N ∧ N ≤ x + d + 1 ∧ fr ≤ x ∧ T = 2 ^ x ∧ T ≤ 16777216 ∧ c = a ||| T ∧ c < 2 ^ (x + 1) ∧ c < 16777216 ∧ IntKind.i64.wrap (2 ^ x) = (T : Int) ∧ bits .or .i64 (a : Int) (T : Int) = (c : Int) ∧
    (match fdO P N d left c with | some b => some b | none => fdO P N d (left + 1) a) = o := by
  obtain ⟨x, hx⟩ : ∃ x, x = N - (d + 1) := ⟨_, rfl⟩
  have hax : a < 2 ^ x := Nat.lt_of_lt_of_le ha (Nat.pow_le_pow_right (by decide) (by omega))
  have h24x : (2 : Nat) ^ x ≤ 16777216 := by
    have := Nat.pow_le_pow_right (n := 2) (by decide) (show x ≤ 24 by omega)
    simpa using this
  have hcx := or_bit_lt hax
  have hc24 : a ||| 2 ^ x < 16777216 := by
    have h1 := Nat.pow_le_pow_right (n := 2) (by decide) (show x + 1 ≤ 24 by omega)
    have e : (2 : Nat) ^ 24 = 16777216 := by decide
    omega
  refine ⟨x, a ||| 2 ^ x, 2 ^ x, hx, by omega, by omega, by omega, rfl, h24x, rfl, hcx, hc24, by rw [pow_wrap62 x (by omega)]; simp, or_nat _ _ (by omega) (by omega), ?_⟩
  rw [hx]; exact h



def fdC (os : List Int) (n : Int) : Bool := grpB os && (inB (gn os) 2 16 && inB n 2 6)
noncomputable def fdF (os : List Int) (n : Int) : Option Nat := if fdC os n = true then fdO (fun b => dsB os (b : Int)) (gn os) (gn os - 1) (n - 1).toNat 1 else none


end Go.Proofs.Ytokpgbpdmfibjaa
