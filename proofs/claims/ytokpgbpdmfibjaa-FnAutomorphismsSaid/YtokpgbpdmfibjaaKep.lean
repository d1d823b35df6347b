/-
A group in its box, kept from world to world. No condition.
-/
import Derived.Test.YtokpgbpdmfibjaaDrw4
import Derived.Deep.RegionHeld3
namespace Go.Proofs.Ytokpgbpdmfibjaa
open Go.RowKit Go.ChangeShapes
set_option linter.unusedVariables false

structure KS (bx : Nat) (ag : Option Addr) (cg : Nat) (xs : List Int) (w : World) : Prop where
  own : Ints w ag cg xs
  cell : w.cell? ⟨bx, 0, none⟩ = some (.slice ag xs.length cg)
  lt : bx < w.heap.size
theorem KS.next {bx : Nat} {ag : Option Addr} {cg : Nat} {xs : List Int} {w w1 : World} (h : KS bx ag cg xs w) (b : Below w.heap.size w w1) : KS bx ag cg xs w1 :=
  ⟨h.own.below b (Nat.le_refl _), (b.cell (p := ⟨bx, 0, none⟩) h.lt).trans h.cell, Nat.lt_of_lt_of_le h.lt b.size⟩
theorem KS.drew {bx : Nat} {ag : Option Addr} {cg : Nat} {xs : List Int} {w : World} (h : KS bx ag cg xs w) : KS bx ag cg xs w.drew := ⟨h.own, h.cell, h.lt⟩
theorem KS.drewN {bx : Nat} {ag : Option Addr} {cg : Nat} {xs : List Int} {w : World} (h : KS bx ag cg xs w) (n : Nat) : KS bx ag cg xs (w.drewN n) := ⟨h.own, h.cell, h.lt⟩
theorem KS.start {B : Nat} {ag : Option Addr} {cg : Nat} {xs : List Int} {w : World} (h : OwnI w B ag cg xs) : KS w.heap.size ag cg xs (w.alloc (.cells #[.slice ag xs.length cg] 26)) := by
  have al := (Below.refl w.heap.size w).alloc (Nat.le_refl _) (.cells #[.slice ag xs.length cg] 26)
  exact ⟨h.ints.below al (Nat.le_refl _), cell_of_one (new_at rfl), by simp⟩
theorem below_alloc (w : World) (o : Obj) : Below w.heap.size w (w.alloc o) := (Below.refl w.heap.size w).alloc (Nat.le_refl _) o
theorem below_drew {B : Nat} {a w : World} (h : Below B a w) : Below B a w.drew := ⟨h.os, h.tape, h.output, h.size, h.block⟩
end Go.Proofs.Ytokpgbpdmfibjaa
