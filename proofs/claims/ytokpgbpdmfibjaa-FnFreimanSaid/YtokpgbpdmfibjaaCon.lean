/-
Contracts of both IsConnections: a set without 0 that has with each element its negative. Conditions: lengths at most 2000000.
-/
import Derived.Test.YtokpgbpdmfibjaaOrs
namespace Go.Proofs.Ytokpgbpdmfibjaa
open Go.RowKit Go.ChangeShapes

def conB (os : List Int) (a : Int) : Bool := setB os a && (!(a.toNat.testBit 0) && (orL (gneg os) (mems a.toNat) == a.toNat))
theorem conB_parts {os : List Int} {a : Int} (h : conB os a = true) : grpB os = true ∧ ∃ m : Nat, a = (m : Int) ∧ m < setT os ∧ m.testBit 0 = false ∧ orL (gneg os) (mems m) = m := by
  simp only [conB, Bool.and_eq_true] at h
  obtain ⟨h1, h2, h3⟩ := h
  obtain ⟨g, m, rfl, hm⟩ := setB_parts h1
  refine ⟨g, m, rfl, hm, ?_, ?_⟩
  · simpa using h2
  · simpa using h3
theorem nat_beq (r m : Nat) : ((r : Int) == (m : Int)) = (r == m) := by
  rw [Bool.eq_iff_iff, beq_iff_eq, beq_iff_eq]; omega
theorem last_val (m : Nat) (h : m < 9223372036854775808) (b : Bool) (hb : m.testBit 0 = b) : bits .and .i64 (m : Int) 1 = if b = true then 1 else 0 := by
  have := bit_at m 0 h
  rw [hb] at this
  simpa using this



end Go.Proofs.Ytokpgbpdmfibjaa
