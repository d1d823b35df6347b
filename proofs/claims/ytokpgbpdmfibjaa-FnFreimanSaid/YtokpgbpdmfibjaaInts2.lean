/-
More on lists of integers in memory: lists written out, results of two parts. No condition.
-/
import Derived.Test.YtokpgbpdmfibjaaInts
import Derived.Deep.QuietTactic
import Derived.BigQuiet
namespace Go.Proofs.Ytokpgbpdmfibjaa
open Go.RowKit Go.ChangeShapes

/-- A list of three numbers that the call has just written out. -/
theorem OwnI.lit3 (w : World) (B : Nat) (x y z : Int) (hB : B ≤ w.heap.size) (hx : (Lit.int .i64 x).wf = true) (hy : (Lit.int .i64 y).wf = true) (hz : (Lit.int .i64 z).wf = true) :
    OwnI (w.alloc (.cells #[.int .i64 x, .int .i64 y, .int .i64 z] 3)) B (some ⟨w.heap.size, 0, none⟩) 3 [x, y, z] := by
  refine ⟨?_, World.ownsRow_lit w _ 3 hB (by simp [maxLen]) (by simp)⟩
  intro n hn
  simp at hn
  rcases hn with rfl | rfl | rfl <;> assumption

/-- What a call that hands back a new list of integers and a bool leaves. -/
def GaveIB (w : World) (xs : List Int) (b : Bool) (e : Ending) (w' : World) : Prop :=
  ∃ a cap, e = .returned (.tuple #[.slice a xs.length cap, .bool b]) ∧ OwnI w' w.heap.size a cap xs ∧ Below w.heap.size w w'

theorem wrap_in {n : Int} (h1 : -9223372036854775808 ≤ n) (h2 : n ≤ 9223372036854775807) : IntKind.i64.wrap n = n := IntWalk.i64_in n ⟨h1, h2⟩
end Go.Proofs.Ytokpgbpdmfibjaa
