/-
Contracts of both TriplesIns: the number of pairs of different elements and of elements whose double is the pair's sum. Conditions: lengths at most 2000000.
-/
import Derived.Test.YtokpgbpdmfibjaaSum
import Derived.Test.YtokpgbpdmfibjaaCon
namespace Go.Proofs.Ytokpgbpdmfibjaa
open Go.RowKit Go.ChangeShapes

def ns (g : Nat → Nat) : Nat → Nat
  | 0 => 0
  | n + 1 => ns g n + g n
theorem ns_congr {g h : Nat → Nat} : ∀ {n : Nat}, (∀ i, i < n → g i = h i) → ns g n = ns h n
  | 0, _ => rfl
  | n + 1, e => by simp only [ns]; rw [ns_congr (fun i hi => e i (by omega)), e n (by omega)]
theorem ns_add {g h : Nat → Nat} : ∀ {n : Nat}, ns (fun i => g i + h i) n = ns g n + ns h n
  | 0 => rfl
  | n + 1 => by simp only [ns]; rw [ns_add]; omega
theorem ns_swap (f : Nat → Nat → Nat) : ∀ n : Nat, ns (fun i => ns (fun k => f i k) i) n = ns (fun k => ns (fun q => f (k + 1 + q) k) (n - (k + 1))) n
  | 0 => rfl
  | n + 1 => by
    simp only [ns]
    rw [ns_swap f n, show n + 1 - (n + 1) = 0 by omega]
    have : ns (fun k => ns (fun q => f (k + 1 + q) k) (n + 1 - (k + 1))) n = ns (fun k => ns (fun q => f (k + 1 + q) k) (n - (k + 1)) + f n k) n := by
      apply ns_congr
      intro k hk
      rw [show n + 1 - (k + 1) = (n - (k + 1)) + 1 by omega]
      simp only [ns]
      rw [show k + 1 + (n - (k + 1)) = n by omega]
    rw [this, ns_add]
    simp [ns]
def nat1 (b : Bool) : Nat := if b = true then 1 else 0
/-- The element at a place. -/
def elt (l : List Int) (i : Nat) : Nat := (l.getD i 0).toNat
def triT (os : List Int) (l : List Int) (i k j : Nat) : Nat := nat1 (gadd os (elt l j) (elt l j) == gadd os (elt l i) (elt l k))
def triF (os : List Int) (l : List Int) (i k : Nat) : Nat := ns (triT os l i k) l.length
theorem triF_comm (os l : List Int) (i k : Nat) : triF os l i k = triF os l k i := by
  unfold triF
  apply ns_congr
  intro j _
  unfold triT
  rw [gadd_comm os (elt l i)]
def triS (os l : List Int) : Nat := ns (fun i => ns (fun k => triF os l i k) i) l.length
def triI (os l : List Int) : Nat := ns (fun i => ns (fun q => triF os l i (i + 1 + q)) (l.length - (i + 1))) l.length
theorem triI_eq (os l : List Int) : triI os l = triS os l := by
  unfold triI triS
  rw [ns_swap]
  apply ns_congr
  intro i _
  apply ns_congr
  intro q _
  exact triF_comm os l _ _
def triV (os : List Int) (a : Int) : Int := if setB os a = true then (triS os (mems a.toNat) : Int) else -1
theorem elt_at {l : List Int} {i : Nat} (h : i < l.length) (hb : ∀ x ∈ l, 0 ≤ x ∧ x < 64) : l[i] = (elt l i : Int) ∧ elt l i < 64 := by
  have e : l.getD i 0 = l[i] := by simp [List.getD, h]
  have := hb _ (List.getElem_mem h)
  unfold elt
  rw [e]
  omega

end Go.Proofs.Ytokpgbpdmfibjaa
