/-
The public draws of FnSumFree. Conditions: codes of at most 2000000 bytes.
-/
import Derived.Test.YtokpgbpdmfibjaaDrw6
namespace Go.Proofs.Ytokpgbpdmfibjaa
open Go.RowKit Go.ChangeShapes
set_option linter.unusedVariables false

/-- A drawn group in its box and the result's cell. -/
structure Rx (w : World) (bx : Nat) (ag : Option Addr) (cg B : Nat) (xs : List Int) (W : World) : Prop where
  box : W.heap[bx]? = some (.cells #[.slice ag xs.length cg] 26 (0, 0))
  own : OwnI W B ag cg xs
  res : W.heap[w.heap.size]? = some (.cells #[.slice none 0 0] 26 (0, 0))
  bel : Below w.heap.size w W
  hB2 : w.heap.size < B
  hbx2 : bx ≠ w.heap.size
theorem Rx.below {w : World} {bx : Nat} {ag : Option Addr} {cg B : Nat} {xs : List Int} {W W1 : World} (h : Rx w bx ag cg B xs W) (hb : Below W.heap.size W W1) : Rx w bx ag cg B xs W1 :=
  ⟨one_below h.box hb (Nat.le_refl _), h.own.below hb (Nat.le_refl _), one_below h.res hb (Nat.le_refl _), nxB h.bel hb h.bel.size, h.hB2, h.hbx2⟩
theorem Rx.fin {w : World} {bx : Nat} {ag : Option Addr} {cg B : Nat} {xs : List Int} {W : World} (h : Rx w bx ag cg B xs W) (V : Value) :
    OwnI (W.setCell ⟨w.heap.size, 0, none⟩ V) w.heap.size ag cg xs ∧ Below w.heap.size w (W.setCell ⟨w.heap.size, 0, none⟩ V) :=
  ⟨OwnI.mono ⟨h.own.1, ownsRow_setCell_below h.own.2 h.hB2 V⟩ (by have := h.hB2; omega), h.bel.setCell (Nat.le_refl _) V⟩
theorem Rx.start {w w0 : World} {ag : Option Addr} {cg : Nat} {xs : List Int} {W : World} (hw0 : w0 = w.alloc (.cells #[.slice none 0 0] 26)) (ho : OwnI W w0.heap.size ag cg xs) (hb : Below w0.heap.size w0 W) : Rx w W.heap.size ag cg w0.heap.size xs (W.alloc (.cells #[.slice ag xs.length cg] 26)) := by
  have al := (Below.refl W.heap.size W).alloc (Nat.le_refl _) (.cells #[.slice ag xs.length cg] 26)
  have hr0 := new_at (w := w) (n := w.heap.size) (o := .cells #[.slice none 0 0] 26) rfl
  rw [← hw0] at hr0
  have hs : w0.heap.size = w.heap.size + 1 := by rw [hw0]; simp
  have ha : Below w.heap.size w w0 := by rw [hw0]; exact (Below.refl w.heap.size w).alloc (Nat.le_refl _) _
  have hr1 := one_below hr0 hb (Nat.le_refl _)
  have := hb.size
  exact ⟨new_at rfl, ho.below al (Nat.le_refl _), one_below hr1 al (Nat.le_refl _), nxB (ha.trans (hb.mono (by omega))) al (by omega), by omega, by omega⟩
end Go.Proofs.Ytokpgbpdmfibjaa
