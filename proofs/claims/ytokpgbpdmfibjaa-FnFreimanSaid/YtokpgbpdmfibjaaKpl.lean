/-
Maps that keep sums of two, plain. No condition.
-/
import Derived.Test.YtokpgbpdmfibjaaSto
namespace Go.Proofs.Ytokpgbpdmfibjaa
open Go.RowKit Go.ChangeShapes
set_option linter.unusedVariables false

/-- Equal sums go to equal sums, at four places. -/
def kpAt (os hs l m : List Int) (i j p q : Nat) : Prop := gadd os (elt l i) (elt l j) = gadd os (elt l p) (elt l q) → gadd hs (elt m i) (elt m j) = gadd hs (elt m p) (elt m q)
def kpN (os hs l m : List Int) (n : Nat) : Prop := ∀ i j p q, i < n → j < n → p < n → q < n → kpAt os hs l m i j p q
open Classical in
noncomputable def kpB (os hs l m : List Int) (n : Nat) : Bool := decide (kpN os hs l m n)
theorem kpB_true {os hs l m : List Int} {n : Nat} : kpB os hs l m n = true ↔ kpN os hs l m n := by unfold kpB; simp
theorem kpB_no {os hs l m : List Int} {n i j p q : Nat} (hi : i < n) (hj : j < n) (hp : p < n) (hq : q < n) (h : ¬ kpAt os hs l m i j p q) : kpB os hs l m n = false := by
  cases e : kpB os hs l m n with
  | false => rfl
  | true => exact absurd (kpB_true.1 e i j p q hi hj hp hq) h
theorem kpAt.swap1 {os hs l m : List Int} {i j p q : Nat} (h : kpAt os hs l m i j p q) : kpAt os hs l m j i p q := by
  unfold kpAt at *
  rw [gadd_comm os (elt l j), gadd_comm hs (elt m j)]; exact h
theorem kpAt.swap2 {os hs l m : List Int} {i j p q : Nat} (h : kpAt os hs l m i j p q) : kpAt os hs l m i j q p := by
  unfold kpAt at *
  rw [gadd_comm os (elt l q), gadd_comm hs (elt m q)]; exact h
theorem kpAt.flip {os hs l m : List Int} {i j p q : Nat} (h : kpAt os hs l m i j p q) : kpAt os hs l m p q i j := fun e => (h e.symm).symm
/-- The program's rounds suffice. -/
theorem kp_half {os hs l m : List Int} {n : Nat} (h : ∀ i j p q, i ≤ j → j < n → p ≤ q → q < n → kpAt os hs l m i j p q) : kpB os hs l m n = true := by
  refine kpB_true.2 fun i j p q hi hj hp hq => ?_
  rcases Nat.le_total i j with h1 | h1 <;> rcases Nat.le_total p q with h2 | h2
  · exact h i j p q h1 hj h2 hq
  · exact (h i j q p h1 hj h2 hp).swap2
  · exact (h j i p q h1 hi h2 hq).swap1
  · exact (h j i q p h1 hi h2 hp).swap1.swap2
/-- The reference's rounds suffice. -/
theorem kp_less {os hs l m : List Int} {n : Nat} (h : ∀ i j p q, i ≤ j → j < n → p ≤ i → p ≤ q → q < n → kpAt os hs l m i j p q) : kpB os hs l m n = true := by
  refine kp_half fun i j p q h1 h2 h3 h4 => ?_
  rcases Nat.le_total p i with h5 | h5
  · exact h i j p q h1 h2 h5 h3 h4
  · exact (h p q i j h3 h4 h5 h1 h2).flip
theorem Ints.elts {w : World} {a : Option Addr} {c n : Nat} {xs : List Int} (h : Ints w a c xs) (hn : xs.length = n) (hx : ∀ x ∈ xs, 0 ≤ x) (h0 : 0 < n) : ∃ b off, a = some ⟨b, off, none⟩ ∧ b < w.heap.size ∧ ∀ i, i < n → w.cell? ⟨b, off + i, none⟩ = some (.int .i64 (elt xs i : Int)) := by
  rcases h.2.2.2.2 with h1 | ⟨b, off, ha, hb, hc⟩
  · subst h1; simp at hn; omega
  · refine ⟨b, off, ha, hb, fun i hi => ?_⟩
    have hi' : i < xs.length := by omega
    rw [hc i hi']
    have := hx _ (List.getElem_mem hi')
    have e : (elt xs i : Int) = xs[i] := by
      unfold elt
      rw [List.getD_eq_getElem?_getD, List.getElem?_eq_getElem hi', Option.getD_some]
      omega
    rw [e]
theorem elt_k {l : List Int} (h : ∀ x ∈ l, 0 ≤ x ∧ x < 1000) (i : Nat) : elt l i < 1000 := by
  unfold elt
  by_cases hi : i < l.length
  · have := h _ (List.getElem_mem hi)
    rw [List.getD_eq_getElem?_getD, List.getElem?_eq_getElem hi, Option.getD_some]
    omega
  · rw [List.getD_eq_getElem?_getD, List.getElem?_eq_none (Nat.le_of_not_lt hi)]
    decide
/-- Two groups in their boxes. -/
structure KpW (w : World) (ag : Option Addr) (cg : Nat) (os : List Int) (ah : Option Addr) (ch : Nat) (hs : List Int) (wr : World) : Prop where
  bel : Below w.heap.size w wr
  c1 : wr.cell? ⟨w.heap.size, 0, none⟩ = some (.slice ag os.length cg)
  c2 : wr.cell? ⟨w.heap.size + 1, 0, none⟩ = some (.slice ah hs.length ch)
  lt : w.heap.size + 1 < wr.heap.size
theorem KpW.next {w : World} {ag : Option Addr} {cg : Nat} {os : List Int} {ah : Option Addr} {ch : Nat} {hs : List Int} {w1 w2 : World} (h : KpW w ag cg os ah ch hs w1) (b : Below w1.heap.size w1 w2) : KpW w ag cg os ah ch hs w2 := by
  have h1 := h.lt
  exact ⟨nxB h.bel b h.bel.size, (b.cell (p := ⟨w.heap.size, 0, none⟩) (by show w.heap.size < _; omega)).trans h.c1, (b.cell (p := ⟨w.heap.size + 1, 0, none⟩) h1).trans h.c2, Nat.lt_of_lt_of_le h1 b.size⟩
theorem KpW.drew {w : World} {ag : Option Addr} {cg : Nat} {os : List Int} {ah : Option Addr} {ch : Nat} {hs : List Int} {w1 : World} (h : KpW w ag cg os ah ch hs w1) : KpW w ag cg os ah ch hs w1.drew :=
  ⟨⟨h.bel.os, h.bel.tape, h.bel.output, h.bel.size, h.bel.block⟩, h.c1, h.c2, h.lt⟩
end Go.Proofs.Ytokpgbpdmfibjaa
