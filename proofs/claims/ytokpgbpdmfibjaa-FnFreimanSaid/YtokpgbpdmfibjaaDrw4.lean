/-
Drawing a coloring, numbers of colors, a group with its coloring. Conditions: codes of at most 2000000 bytes.
-/
import Derived.Test.YtokpgbpdmfibjaaDrw3
namespace Go.Proofs.Ytokpgbpdmfibjaa
open Go.RowKit Go.ChangeShapes
set_option linter.unusedVariables false

theorem CW.belowB {w0 : World} {a : Option Addr} {n cap cb B : Nat} {w w' : World} (h : CW w0 a n cap cb w) (hb : Below B w w') (hcb : cb < B) (hB : w0.heap.size ≤ B) : CW w0 a n cap cb w' := by
  obtain ⟨i, x, h1, h2, h3⟩ := h.cur
  exact ⟨h.bt, h.hcb, ⟨i, x, h1, h2, by rw [hb.block cb hcb]; exact h3⟩, h.bel.trans (hb.mono hB)⟩
theorem grown_belowB {w w1 w2 : World} {q : Option Nat} (h : w.grownBy w1 q) (k : Below w.heap.size w1 w2) : w.grownBy w2 q :=
  ⟨k.os.trans h.os, k.tape.trans h.tape, k.output.trans h.output, Nat.le_trans h.size k.size, fun i hi hne => (k.block i hi).trans (h.block i hi hne)⟩
theorem OwnI.cur {w w1 : World} {B cb : Nat} {al : Option Addr} {cl : Nat} {l : List Int} (h : OwnI w B al cl l) (g : w.grownBy w1 (some cb)) (hB : cb < B) : OwnI w1 B al cl l :=
  h.grown g (fun x hx e => by have := (h.lt x hx).1; simp at e; omega)

theorem OwnI.addr {w : World} {B : Nat} {a : Option Addr} {cap : Nat} {xs : List Int} (h : OwnI w B a cap xs) (hx : 0 < xs.length) : ∃ g, a = some ⟨g, 0, none⟩ ∧ B ≤ g ∧ g < w.heap.size := by
  rcases h.2.2 with ⟨hv, hn⟩ | ⟨g, c, cur, hv, hg, hh, hnc, hcm, hcs, htake⟩
  · omega
  · simp only [Value.slice.injEq, true_and] at hv
    obtain ⟨rfl, rfl⟩ := hv
    exact ⟨g, rfl, hg, (Array.getElem?_eq_some_iff.1 hh).1⟩
end Go.Proofs.Ytokpgbpdmfibjaa
