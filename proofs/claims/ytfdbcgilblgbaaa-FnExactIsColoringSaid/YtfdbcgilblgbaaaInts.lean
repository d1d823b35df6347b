/-
Slices of integers in memory: what the walks are told of a slice that is only read (Ints), and of one that the call itself has made (OwnI); how both are carried from world to world. No condition.
-/
import Derived.Test.YtfdbcgilblgbaaaNum
import Derived.ProofKit
import Derived.WalkSmall
namespace Go.Proofs.Ytfdbcgilblgbaaa
open Go.RowKit Go.ChangeShapes

/-- The slice with base a and capacity cap reads as xs in the world w. -/
def Ints (w : World) (a : Option Addr) (cap : Nat) (xs : List Int) : Prop :=
  xs.length ≤ cap ∧ cap ≤ maxLen ∧ (a = none → cap = 0) ∧ (∀ n ∈ xs, (Lit.int .i64 n).wf = true) ∧
  (xs = [] ∨ ∃ b off, a = some ⟨b, off, none⟩ ∧ b < w.heap.size ∧ ∀ i, (h : i < xs.length) → w.cell? ⟨b, off + i, none⟩ = some (.int .i64 xs[i]))

theorem Ints.below {B : Nat} {w w' : World} {a : Option Addr} {cap : Nat} {xs : List Int} (h : Ints w a cap xs) (hb : Below B w w') (hB : w.heap.size ≤ B) : Ints w' a cap xs := by
  obtain ⟨h1, h2, h3, h4, h5⟩ := h
  refine ⟨h1, h2, h3, h4, ?_⟩
  rcases h5 with h5 | ⟨b, off, ha, hlt, hc⟩
  · exact .inl h5
  · exact .inr ⟨b, off, ha, by have := hb.size; omega, fun i hi => (hb.cell (p := ⟨b, off + i, none⟩) (by show b < B; omega)).trans (hc i hi)⟩

/-- The slice with base a and capacity cap is the call's own (its block is at least B) and reads as xs. -/
def OwnI (w : World) (B : Nat) (a : Option Addr) (cap : Nat) (xs : List Int) : Prop :=
  (∀ n ∈ xs, (Lit.int .i64 n).wf = true) ∧ w.ownsRow B 3 1 (.slice a xs.length cap) xs.length (xs.map (.int .i64))

theorem OwnI.mono {w : World} {B B' : Nat} {a : Option Addr} {cap : Nat} {xs : List Int} (h : OwnI w B a cap xs) (hB : B' ≤ B) : OwnI w B' a cap xs := by
  obtain ⟨hw, h1, h2⟩ := h
  refine ⟨hw, h1, ?_⟩
  rcases h2 with h2 | ⟨g, c, cur, e, hg, r⟩
  · exact .inl h2
  · exact .inr ⟨g, c, cur, e, by omega, r⟩

theorem OwnI.ints {w : World} {B : Nat} {a : Option Addr} {cap : Nat} {xs : List Int} (h : OwnI w B a cap xs) : Ints w a cap xs := by
  obtain ⟨hw, hown⟩ := h
  have h2 := hown.2
  rcases h2 with ⟨hv, hn⟩ | ⟨g, c, cur, hv, hg, hh, hnc, hcm, hcs, htake⟩
  · simp only [Value.slice.injEq] at hv
    obtain ⟨rfl, -, rfl⟩ := hv
    exact ⟨by omega, by simp [maxLen], fun _ => rfl, hw, .inl (List.eq_nil_of_length_eq_zero hn)⟩
  · simp only [Value.slice.injEq, true_and] at hv
    obtain ⟨rfl, rfl⟩ := hv
    refine ⟨hnc, hcm, (fun h => by cases h), hw, ?_⟩
    by_cases hx : xs = []
    · exact .inl hx
    · refine .inr ⟨g, 0, rfl, (Array.getElem?_eq_some_iff.1 hh).1, fun i hi => ?_⟩
      have := hown.cellAt i (by omega)
      rw [Nat.zero_add, this]
      simp [hi]

/-- What a call owns stays owned behind a later call that leaves all its blocks alone. -/
theorem OwnI.below {w w' : World} {B B' : Nat} {a : Option Addr} {cap : Nat} {xs : List Int} (h : OwnI w B a cap xs) (hb : Below B' w w') (hB : w.heap.size ≤ B') : OwnI w' B a cap xs := by
  obtain ⟨hw, h1, h2⟩ := h
  refine ⟨hw, h1, ?_⟩
  rcases h2 with h2 | ⟨g, c, cur, e, hg, hh, r⟩
  · exact .inl h2
  · have := (Array.getElem?_eq_some_iff.1 hh).1
    exact .inr ⟨g, c, cur, e, hg, by rw [hb.block g (by omega)]; exact hh, r⟩

/-- Or behind writes to rows above it. -/
theorem OwnI.below' {w w' : World} {B B' : Nat} {a : Option Addr} {cap : Nat} {xs : List Int} (h : OwnI w B a cap xs) (hb : Below B' w w') (hB : ∀ x, a = some x → x.block < B') : OwnI w' B a cap xs := by
  obtain ⟨hw, h1, h2⟩ := h
  refine ⟨hw, h1, ?_⟩
  rcases h2 with h2 | ⟨g, c, cur, e, hg, hh, r⟩
  · exact .inl h2
  · simp only [Value.slice.injEq, true_and] at e
    obtain ⟨rfl, rfl⟩ := e
    have := hB _ rfl
    exact .inr ⟨g, cap, cur, rfl, hg, by rw [hb.block g this]; exact hh, r⟩

theorem OwnI.lt {w : World} {B : Nat} {a : Option Addr} {cap : Nat} {xs : List Int} (h : OwnI w B a cap xs) : ∀ x, a = some x → B ≤ x.block ∧ x.block < w.heap.size := by
  intro x hx
  subst hx
  exact h.2.lt x.block rfl

theorem OwnI.wf {w : World} {B : Nat} {a : Option Addr} {cap : Nat} {xs : List Int} (h : OwnI w B a cap xs) : ∀ n ∈ xs, (Lit.int .i64 n).wf = true := h.1
theorem Ints.wf {w : World} {a : Option Addr} {cap : Nat} {xs : List Int} (h : Ints w a cap xs) : ∀ n ∈ xs, (Lit.int .i64 n).wf = true := h.2.2.2.1

theorem OwnI.drewN {w : World} {B : Nat} {a : Option Addr} {cap : Nat} {xs : List Int} (h : OwnI w B a cap xs) (n : Nat) : OwnI (w.drewN n) B a cap xs := h

theorem wf_bd {n : Int} (h : (Lit.int .i64 n).wf = true) : -9223372036854775808 ≤ n ∧ n ≤ 9223372036854775807 := by
  simp [Lit.wf, IntKind.min, IntKind.max, IntKind.signed, IntKind.bits] at h
  exact ⟨by omega, by omega⟩
theorem wf_of {n : Int} (h1 : -9223372036854775808 ≤ n) (h2 : n ≤ 9223372036854775807) : (Lit.int .i64 n).wf = true := by
  simp [Lit.wf, IntKind.min, IntKind.max, IntKind.signed, IntKind.bits]
  exact ⟨by omega, by omega⟩

/-- Two marks: old cells and old freeze marks read as before. -/
theorem bcell {B : Nat} {W w1 : World} (hb : Below B W w1) : (∀ b o, b < B → w1.cell? ⟨b, o, none⟩ = W.cell? ⟨b, o, none⟩) ∧ (∀ b o, b < B → w1.frozen? ⟨b, o, none⟩ = W.frozen? ⟨b, o, none⟩) :=
  ⟨fun b o h => hb.cell (p := ⟨b, o, none⟩) h, fun b o h => hb.frozen (p := ⟨b, o, none⟩) h⟩

theorem nx {w w1 w2 : World} (h : Below w.heap.size w w1) (k : Below w1.heap.size w1 w2) : Below w.heap.size w w2 := h.trans (k.mono h.size)
theorem nxB {B : Nat} {w w1 w2 : World} (h : Below B w w1) (k : Below w1.heap.size w1 w2) (hB : B ≤ w1.heap.size) : Below B w w2 := h.trans (k.mono hB)

/-- What a call that hands back a new list of integers leaves. -/
def GaveI (w : World) (xs : List Int) (e : Ending) (w' : World) : Prop :=
  ∃ a cap, e = .returned (.slice a xs.length cap) ∧ OwnI w' w.heap.size a cap xs ∧ Below w.heap.size w w'

/-- The element type's row of the table of types. -/
theorem infoI : (Try.prog.info? 3).map (fun i => (i.zero, i.size, i.bytes)) = some (some (.int .i64 0), 1, 8) := by kernel_rfl

/-- WHAT A ROW's PROOF KNOWS OF A SLICE OF INTEGERS THAT CAME IN, in the walk's words. -/
theorem ints_of {w : World} {x : Addr} {len cap : Nat} {zs : List Int} (hl : len ≤ cap) (hm : cap ≤ maxLen) (hz : zs.length = cap)
    (hcell : ∀ i, i < zs.length → w.cell? (x.add i) = some (.int .i64 (zs.getD i 0))) (hwz : ∀ n ∈ zs, (Lit.int .i64 n).wf = true) :
    (zs.take len).length = len ∧ Ints w (some x) cap (zs.take len) := by
  have hlen : (zs.take len).length = len := by simp; omega
  refine ⟨hlen, by omega, hm, (fun h => by cases h), fun n hn => hwz n (List.mem_of_mem_take hn), ?_⟩
  by_cases h0 : len = 0
  · exact .inl (by simp [h0])
  · obtain ⟨b, off, spot⟩ := x
    have hc := hcell 0 (by omega)
    have hspot : spot = none := by simpa [Addr.add] using World.cell?_spot hc
    subst hspot
    refine .inr ⟨b, off, rfl, ?_, fun i hi => ?_⟩
    · have := World.block_lt_of_cell? _ _ hc
      simpa [Addr.add] using this
    · have h3 := hcell i (by omega)
      have h4 : (⟨b, off, none⟩ : Addr).add i = ⟨b, off + i, none⟩ := Addr.add_lit _ _ _
      rw [h4] at h3
      rw [h3]
      congr 2
      rw [List.getElem_take, List.getD_eq_getElem?_getD, List.getElem?_eq_getElem (by omega)]
      rfl
end Go.Proofs.Ytfdbcgilblgbaaa
