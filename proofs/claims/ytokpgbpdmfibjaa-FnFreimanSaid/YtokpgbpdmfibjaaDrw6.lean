/-
The draws of FnSumFree: groups, sets without sums. Conditions: codes of at most 2000000 bytes.
-/
import Derived.Test.YtokpgbpdmfibjaaDrw4
import Derived.Deep.RegionLaw
namespace Go.Proofs.Ytokpgbpdmfibjaa
open Go.RowKit Go.ChangeShapes
set_option linter.unusedVariables false

theorem CW.drew {w0 : World} {a : Option Addr} {n cap cb : Nat} {w : World} (h : CW w0 a n cap cb w) : CW w0 a n cap cb w.drew := ⟨h.bt, h.hcb, h.cur, ⟨h.bel.os, h.bel.tape, h.bel.output, h.bel.size, h.bel.block⟩⟩
theorem grown_drew {w w1 : World} {q : Option Nat} (h : w.grownBy w1 q) : w.grownBy w1.drew q := ⟨h.os, h.tape, h.output, h.size, h.block⟩
theorem grown_undrew {w w1 : World} {q : Option Nat} (h : w.drew.grownBy w1 q) : w.grownBy w1 q := ⟨h.os, h.tape, h.output, h.size, h.block⟩

/-- What a public draw of a group leaves. -/
def DrewG (w : World) (e : Ending) (w' : World) : Prop :=
  ∃ (xs : List Int) (ag : Option Addr) (cg : Nat), e = .returned (.agg #[.slice ag xs.length cg]) ∧ xs.length ≤ 4 ∧ OwnI w' w.heap.size ag cg xs ∧ Below w.heap.size w w'
/-- What a public draw of a group and a number leaves. -/
def DrewGI (w : World) (e : Ending) (w' : World) : Prop :=
  ∃ (xs : List Int) (ag : Option Addr) (cg : Nat) (x : Int), e = .returned (.tuple #[.agg #[.slice ag xs.length cg], .int .i64 x]) ∧ xs.length ≤ 4 ∧ (Lit.int .i64 x).wf = true ∧ OwnI w' w.heap.size ag cg xs ∧ Below w.heap.size w w'
/-- The cursor, the group in its box and the result's cell. -/
structure Bx (w w0 : World) (a : Option Addr) (n cap cb bx : Nat) (ag : Option Addr) (cg B : Nat) (xs : List Int) (W : World) : Prop where
  cw : CW w0 a n cap cb W
  box : W.heap[bx]? = some (.cells #[.slice ag xs.length cg] 26 (0, 0))
  own : OwnI W B ag cg xs
  res : W.heap[w.heap.size]? = some (.cells #[.slice none 0 0] 26 (0, 0))
  bel : Below w.heap.size w W
  w0s : w.heap.size < w0.heap.size
  hB : cb < B
  hB2 : w.heap.size < B
  hbx : bx ≠ cb
  hbx2 : bx ≠ w.heap.size
theorem Bx.below {w w0 : World} {a : Option Addr} {n cap cb bx : Nat} {ag : Option Addr} {cg B : Nat} {xs : List Int} {W W1 : World} (h : Bx w w0 a n cap cb bx ag cg B xs W) (hb : Below W.heap.size W W1) : Bx w w0 a n cap cb bx ag cg B xs W1 :=
  ⟨h.cw.below hb, one_below h.box hb (Nat.le_refl _), h.own.below hb (Nat.le_refl _), one_below h.res hb (Nat.le_refl _), nxB h.bel hb h.bel.size, h.w0s, h.hB, h.hB2, h.hbx, h.hbx2⟩
theorem Bx.grown {w w0 : World} {a : Option Addr} {n cap cb bx : Nat} {ag : Option Addr} {cg B : Nat} {xs : List Int} {W W1 : World} (h : Bx w w0 a n cap cb bx ag cg B xs W) (hc : CW w0 a n cap cb W1) (hg : W.grownBy W1 (some cb)) : Bx w w0 a n cap cb bx ag cg B xs W1 :=
  ⟨hc, one_grown h.box hg (by simpa using h.hbx), h.own.cur hg h.hB, one_grown h.res hg (by have := hc.hcb; have := h.w0s; simp; omega), h.bel.grown hg h.bel.size (fun k hk => by cases hk; have := hc.hcb; have := h.w0s; omega), h.w0s, h.hB, h.hB2, h.hbx, h.hbx2⟩
theorem Bx.drew {w w0 : World} {a : Option Addr} {n cap cb bx : Nat} {ag : Option Addr} {cg B : Nat} {xs : List Int} {W : World} (h : Bx w w0 a n cap cb bx ag cg B xs W) : Bx w w0 a n cap cb bx ag cg B xs W.drew :=
  ⟨h.cw.drew, h.box, h.own, h.res, ⟨h.bel.os, h.bel.tape, h.bel.output, h.bel.size, h.bel.block⟩, h.w0s, h.hB, h.hB2, h.hbx, h.hbx2⟩
/-- The end. -/
theorem Bx.fin {w w0 : World} {a : Option Addr} {n cap cb bx : Nat} {ag : Option Addr} {cg B : Nat} {xs : List Int} {W : World} (h : Bx w w0 a n cap cb bx ag cg B xs W) (V : Value) :
    OwnI (W.setCell ⟨w.heap.size, 0, none⟩ V) w.heap.size ag cg xs ∧ Below w.heap.size w (W.setCell ⟨w.heap.size, 0, none⟩ V) :=
  ⟨OwnI.mono ⟨h.own.1, ownsRow_setCell_below h.own.2 h.hB2 V⟩ (by have := h.hB2; omega), h.bel.setCell (Nat.le_refl _) V⟩
/-- At the beginning. -/
theorem Bx.start {w w0 : World} {a : Option Addr} {n cap cb : Nat} {ag : Option Addr} {cg B : Nat} {xs : List Int} {W : World} (hw0 : w0 = w.alloc (.cells #[.slice none 0 0] 26)) (hc : CW w0 a n cap cb W) (ho : OwnI W B ag cg xs) (hB : cb < B) : Bx w w0 a n cap cb W.heap.size ag cg B xs (W.alloc (.cells #[.slice ag xs.length cg] 26)) := by
  have al := (Below.refl W.heap.size W).alloc (Nat.le_refl _) (.cells #[.slice ag xs.length cg] 26)
  have hr0 := new_at (w := w) (n := w.heap.size) (o := .cells #[.slice none 0 0] 26) rfl
  rw [← hw0] at hr0
  have hs : w0.heap.size = w.heap.size + 1 := by rw [hw0]; simp
  have ha : Below w.heap.size w w0 := by rw [hw0]; exact (Below.refl w.heap.size w).alloc (Nat.le_refl _) _
  have hr1 := one_below hr0 hc.bel (Nat.le_refl _)
  have := hc.hcb
  have := hc.bel.size
  have := hc.lt
  exact ⟨hc.below al, new_at rfl, ho.below al (Nat.le_refl _), one_below hr1 al (Nat.le_refl _), nxB (ha.trans (hc.bel.mono (by omega))) al (by omega), by omega, hB, by omega, by omega, by omega⟩
end Go.Proofs.Ytokpgbpdmfibjaa
