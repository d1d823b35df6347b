/-
Slices of integers in memory: what the walks are told of a slice that is only read (Ints), and of one that the call itself has made (OwnI); how both are carried from world to world. No condition.
-/
import Derived.Test.YtokpgbpdmfibjaaNum
import Derived.ProofKit
import Derived.WalkSmall
import Derived.WalkSpells
namespace Go.Proofs.Ytokpgbpdmfibjaa
open Go.RowKit Go.ChangeShapes

/-- The slice with base a and capacity cap reads as xs in the world w. -/
def Ints (w : World) (a : Option Addr) (cap : Nat) (xs : List Int) : Prop :=
  xs.length ≤ cap ∧ cap ≤ maxLen ∧ (a = none → cap = 0) ∧ (∀ n ∈ xs, (Lit.int .i64 n).wf = true) ∧
  (xs = [] ∨ ∃ b off, a = some ⟨b, off, none⟩ ∧ b < w.heap.size ∧ ∀ i, (h : i < xs.length) → w.cell? ⟨b, off + i, none⟩ = some (.int .i64 xs[i]))

theorem Ints.below {B : Nat} {w w' : World} {a : Option Addr} {cap : Nat} {xs : List Int} (h : Ints w a cap xs) (hb : Below B w w') (hB : w.heap.size ≤ B) : Ints w' a cap xs := by
  obtain ⟨h1, h2, h3, h4, h5⟩ := h
  refine ⟨h1, h2, h3, h4, ?_⟩
  rcases h5 with h5 | ⟨b, off, ha, hlt, hc⟩
  · exact .inl h5
  · exact .inr ⟨b, off, ha, by have := hb.size; omega, fun i hi => (hb.cell (p := ⟨b, off + i, none⟩) (by show b < B; omega)).trans (hc i hi)⟩

/-- The slice with base a and capacity cap is the call's own (its block is at least B) and reads as xs. -/
def OwnI (w : World) (B : Nat) (a : Option Addr) (cap : Nat) (xs : List Int) : Prop :=
  (∀ n ∈ xs, (Lit.int .i64 n).wf = true) ∧ w.ownsRow B 3 1 (.slice a xs.length cap) xs.length (xs.map (.int .i64))

theorem OwnI.mono {w : World} {B B' : Nat} {a : Option Addr} {cap : Nat} {xs : List Int} (h : OwnI w B a cap xs) (hB : B' ≤ B) : OwnI w B' a cap xs := by
  obtain ⟨hw, h1, h2⟩ := h
  refine ⟨hw, h1, ?_⟩
  rcases h2 with h2 | ⟨g, c, cur, e, hg, r⟩
  · exact .inl h2
  · exact .inr ⟨g, c, cur, e, by omega, r⟩

theorem OwnI.ints {w : World} {B : Nat} {a : Option Addr} {cap : Nat} {xs : List Int} (h : OwnI w B a cap xs) : Ints w a cap xs := by
  obtain ⟨hw, hown⟩ := h
  have h2 := hown.2
  rcases h2 with ⟨hv, hn⟩ | ⟨g, c, cur, hv, hg, hh, hnc, hcm, hcs, htake⟩
  · simp only [Value.slice.injEq] at hv
    obtain ⟨rfl, -, rfl⟩ := hv
    exact ⟨by omega, by simp [maxLen], fun _ => rfl, hw, .inl (List.eq_nil_of_length_eq_zero hn)⟩
  · simp only [Value.slice.injEq, true_and] at hv
    obtain ⟨rfl, rfl⟩ := hv
    refine ⟨hnc, hcm, (fun h => by cases h), hw, ?_⟩
    by_cases hx : xs = []
    · exact .inl hx
    · refine .inr ⟨g, 0, rfl, (Array.getElem?_eq_some_iff.1 hh).1, fun i hi => ?_⟩
      have := hown.cellAt i (by omega)
      rw [Nat.zero_add, this]
      simp [hi]

/-- What a call owns stays owned behind a later call that leaves all its blocks alone. -/
theorem OwnI.below {w w' : World} {B B' : Nat} {a : Option Addr} {cap : Nat} {xs : List Int} (h : OwnI w B a cap xs) (hb : Below B' w w') (hB : w.heap.size ≤ B') : OwnI w' B a cap xs := by
  obtain ⟨hw, h1, h2⟩ := h
  refine ⟨hw, h1, ?_⟩
  rcases h2 with h2 | ⟨g, c, cur, e, hg, hh, r⟩
  · exact .inl h2
  · have := (Array.getElem?_eq_some_iff.1 hh).1
    exact .inr ⟨g, c, cur, e, hg, by rw [hb.block g (by omega)]; exact hh, r⟩

/-- Or behind writes to rows above it. -/
theorem OwnI.below' {w w' : World} {B B' : Nat} {a : Option Addr} {cap : Nat} {xs : List Int} (h : OwnI w B a cap xs) (hb : Below B' w w') (hB : ∀ x, a = some x → x.block < B') : OwnI w' B a cap xs := by
  obtain ⟨hw, h1, h2⟩ := h
  refine ⟨hw, h1, ?_⟩
  rcases h2 with h2 | ⟨g, c, cur, e, hg, hh, r⟩
  · exact .inl h2
  · simp only [Value.slice.injEq, true_and] at e
    obtain ⟨rfl, rfl⟩ := e
    have := hB _ rfl
    exact .inr ⟨g, cap, cur, rfl, hg, by rw [hb.block g this]; exact hh, r⟩

theorem OwnI.lt {w : World} {B : Nat} {a : Option Addr} {cap : Nat} {xs : List Int} (h : OwnI w B a cap xs) : ∀ x, a = some x → B ≤ x.block ∧ x.block < w.heap.size := by
  intro x hx
  subst hx
  exact h.2.lt x.block rfl

theorem OwnI.wf {w : World} {B : Nat} {a : Option Addr} {cap : Nat} {xs : List Int} (h : OwnI w B a cap xs) : ∀ n ∈ xs, (Lit.int .i64 n).wf = true := h.1
theorem Ints.wf {w : World} {a : Option Addr} {cap : Nat} {xs : List Int} (h : Ints w a cap xs) : ∀ n ∈ xs, (Lit.int .i64 n).wf = true := h.2.2.2.1

theorem OwnI.drewN {w : World} {B : Nat} {a : Option Addr} {cap : Nat} {xs : List Int} (h : OwnI w B a cap xs) (n : Nat) : OwnI (w.drewN n) B a cap xs := h

theorem wf_bd {n : Int} (h : (Lit.int .i64 n).wf = true) : -9223372036854775808 ≤ n ∧ n ≤ 9223372036854775807 := by
  simp [Lit.wf, IntKind.min, IntKind.max, IntKind.signed, IntKind.bits] at h
  exact ⟨by omega, by omega⟩
theorem wf_of {n : Int} (h1 : -9223372036854775808 ≤ n) (h2 : n ≤ 9223372036854775807) : (Lit.int .i64 n).wf = true := by
  simp [Lit.wf, IntKind.min, IntKind.max, IntKind.signed, IntKind.bits]
  exact ⟨by omega, by omega⟩

/-- Two marks: old cells and old freeze marks read as before. -/
theorem bcell {B : Nat} {W w1 : World} (hb : Below B W w1) : (∀ b o, b < B → w1.cell? ⟨b, o, none⟩ = W.cell? ⟨b, o, none⟩) ∧ (∀ b o, b < B → w1.frozen? ⟨b, o, none⟩ = W.frozen? ⟨b, o, none⟩) :=
  ⟨fun b o h => hb.cell (p := ⟨b, o, none⟩) h, fun b o h => hb.frozen (p := ⟨b, o, none⟩) h⟩

theorem nx {w w1 w2 : World} (h : Below w.heap.size w w1) (k : Below w1.heap.size w1 w2) : Below w.heap.size w w2 := h.trans (k.mono h.size)
theorem nxB {B : Nat} {w w1 w2 : World} (h : Below B w w1) (k : Below w1.heap.size w1 w2) (hB : B ≤ w1.heap.size) : Below B w w2 := h.trans (k.mono hB)

/-- What a call that hands back a new list of integers leaves. -/
def GaveI (w : World) (xs : List Int) (e : Ending) (w' : World) : Prop :=
  ∃ a cap, e = .returned (.slice a xs.length cap) ∧ OwnI w' w.heap.size a cap xs ∧ Below w.heap.size w w'

/-- The element type's row of the table of types. -/
theorem infoI : (Try.prog.info? 3).map (fun i => (i.zero, i.size, i.bytes)) = some (some (.int .i64 0), 1, 8) := by kernel_rfl

/-- WHAT A ROW's PROOF KNOWS OF A SLICE OF INTEGERS THAT CAME IN, in the walk's words. -/
theorem ints_of {w : World} {x : Addr} {len cap : Nat} {zs : List Int} (hl : len ≤ cap) (hm : cap ≤ maxLen) (hz : zs.length = cap)
    (hcell : ∀ i, i < zs.length → w.cell? (x.add i) = some (.int .i64 (zs.getD i 0))) (hwz : ∀ n ∈ zs, (Lit.int .i64 n).wf = true) :
    (zs.take len).length = len ∧ Ints w (some x) cap (zs.take len) := by
  have hlen : (zs.take len).length = len := by simp; omega
  refine ⟨hlen, by omega, hm, (fun h => by cases h), fun n hn => hwz n (List.mem_of_mem_take hn), ?_⟩
  by_cases h0 : len = 0
  · exact .inl (by simp [h0])
  · obtain ⟨b, off, spot⟩ := x
    have hc := hcell 0 (by omega)
    have hspot : spot = none := by simpa [Addr.add] using World.cell?_spot hc
    subst hspot
    refine .inr ⟨b, off, rfl, ?_, fun i hi => ?_⟩
    · have := World.block_lt_of_cell? _ _ hc
      simpa [Addr.add] using this
    · have h3 := hcell i (by omega)
      have h4 : (⟨b, off, none⟩ : Addr).add i = ⟨b, off + i, none⟩ := Addr.add_lit _ _ _
      rw [h4] at h3
      rw [h3]
      congr 2
      rw [List.getElem_take, List.getD_eq_getElem?_getD, List.getElem?_eq_getElem (by omega)]
      rfl
/-- An empty list that the call has just made ('[]int{}'). -/
theorem OwnI.made (w : World) (B : Nat) (hB : B ≤ w.heap.size) : OwnI (w.alloc (.cells #[] 3)) B (some ⟨w.heap.size, 0, none⟩) 0 [] :=
  ⟨by simp, World.ownsRow_made w #[] 0 hB (by simp [maxLen]) (by simp)⟩

/-- The slice behind an append of one number, in the words of this page. -/
theorem OwnI.app {w : World} {B : Nat} {v : Value} {n : Nat} {xs : List Int} {x : Int} (hwf : ∀ n ∈ xs, (Lit.int .i64 n).wf = true) (hx : (Lit.int .i64 x).wf = true) (hn : n = xs.length + 1)
    (h : w.ownsRow B 3 1 v n (xs.map (.int .i64) ++ [.int .i64 x])) : ∃ a cap, v = .slice a (xs ++ [x]).length cap ∧ OwnI w B a cap (xs ++ [x]) := by
  subst hn
  have hl : (xs ++ [x]).length = xs.length + 1 := by simp
  have hm : (xs ++ [x]).map (Value.int .i64) = xs.map (.int .i64) ++ [.int .i64 x] := by simp
  rcases h.2 with ⟨hv, h0⟩ | ⟨g, cap, cur, hv, r⟩
  · omega
  · subst hv
    refine ⟨some ⟨g, 0, none⟩, cap, by rw [hl], ?_, by rw [hl, hm]; exact h⟩
    intro n hn
    rcases List.mem_append.1 hn with hn | hn
    · exact hwf n hn
    · simp at hn; subst hn; exact hx

theorem OwnI.ownBlock {w : World} {B : Nat} {a : Option Addr} {c n : Nat} {xs : List Int} (h : OwnI w B a c xs) : ∀ k, (Value.slice a n c).ownBlock = some k → B ≤ k := by
  intro k hk
  cases a with
  | none => simp [Value.ownBlock] at hk
  | some x => simp [Value.ownBlock] at hk; subst hk; exact (h.lt x rfl).1

theorem OwnI.cell {w : World} {B g c : Nat} {xs : List Int} (h : OwnI w B (some ⟨g, 0, none⟩) c xs) (j : Nat) (hj : j < xs.length) : w.cell? ⟨g, j, none⟩ = some (.int .i64 xs[j]) := by
  rw [h.2.cellAt j (by omega)]
  simp [hj]
theorem OwnI.frozen {w : World} {B g c : Nat} {xs : List Int} (h : OwnI w B (some ⟨g, 0, none⟩) c xs) (j : Nat) : w.frozen? ⟨g, j, none⟩ = false := h.2.frozenAt j
theorem OwnI.set {w : World} {B g c : Nat} {xs : List Int} (h : OwnI w B (some ⟨g, 0, none⟩) c xs) (j : Nat) (y : Int) (hy : (Lit.int .i64 y).wf = true) : OwnI (w.setCell ⟨g, j, none⟩ (.int .i64 y)) B (some ⟨g, 0, none⟩) c (xs.set j y) := by
  refine ⟨?_, ?_⟩
  · intro n hn
    rcases List.mem_or_eq_of_mem_set hn with hn | hn
    · exact h.1 n hn
    · subst hn; exact hy
  · have := (h.2.stored j (.int .i64 y)).1
    rw [List.length_set, List.map_set]
    exact this
theorem OwnI.drew {w : World} {B : Nat} {a : Option Addr} {c : Nat} {xs : List Int} (h : OwnI w B a c xs) : OwnI w.drew B a c xs := h

/-- THE WALK's LAW FOR 'append(out, y)', out a list of the call's own: y lies in a new block of one cell. -/
theorem wpList_app {ops : Array Oper} {rest : List Oper} {o : Oper} {a : Act} {Q : Exit → Act → World → Prop} {w0 : World} (hg : o.guard = none) (s x : Operand)
    (hop : o.op = .call { callee := .builtin .append, args := #[s, x], argTypes := #[24, 24] })
    (B : Nat) (ad : Option Addr) (c : Nat) (xs : List Int) (y : Int) (hs : a.eval s = .slice ad xs.length c) (hx : a.eval x = .slice (some ⟨w0.heap.size, 0, none⟩) 1 1)
    (hown : OwnI w0 B ad c xs) (hy : (Lit.int .i64 y).wf = true) (hlen : xs.length ≤ 2000000) (hB : B ≤ w0.heap.size)
    (hK : ∀ ad' c' w', OwnI w' B ad' c' (xs ++ [y]) → (∀ W, Below B W w0 → Below B W w') → wpList Try.prog ops Q rest (a.put o.dst (.slice ad' (xs.length + 1) c')) w') :
    wpList Try.prog ops Q (o :: rest) a (w0.alloc (.cells #[.int .i64 y] 3)) := by
  obtain ⟨i0, hi, hz0, hz1, hz2⟩ := info_parts infoI
  refine wpList_append_own _ hg s x 24 hop B 3 i0 (.int .i64 0) 1 8 Try.underlying24 hi hz0 hz1 hz2 rfl (by decide) _ _ _ hs (hown.2.alloc _) ⟨w0.heap.size, 0, none⟩ 1 1 [.int .i64 y] hx rfl (cell_one_new _ _ _) ?_ ?_ ?_ ?_ ?_
  · intro u hu; simp at hu; subst hu; rfl
  · unfold maxLen; omega
  · omega
  · simp; omega
  · intro v' w1 hown' hgrow _
    obtain ⟨a', c', rfl, hO⟩ := OwnI.app hown.1 hy rfl hown'
    have h := hK a' c' w1 hO fun W hW => (hW.alloc hB _).grown hgrow (by simp; omega) (hown.ownBlock)
    simpa using h

/-- THE WALK's LAW FOR 'make([]int, n)'. -/
theorem wpList_mk {ops : Array Oper} {rest : List Oper} {o : Oper} {a : Act} {Q : Exit → Act → World → Prop} {w : World} (hg : o.guard = none) (l c : Operand) (hop : o.op = Op.makeSlice 24 l c)
    (B : Nat) (L C : Int) (n : Nat) (hl : a.eval l = .int .i64 L) (hc : a.eval c = .int .i64 C) (hL : L = (n : Int)) (hC : C = (n : Int)) (hn : n ≤ 2000000) (hB : B ≤ w.heap.size)
    (hK : ∀ w', OwnI w' B (some ⟨w.heap.size, 0, none⟩) n (List.replicate n 0) → (∀ W, Below B W w → Below B W w') → wpList Try.prog ops Q rest (a.put o.dst (.slice (some ⟨w.heap.size, 0, none⟩) n n)) w') :
    wpList Try.prog ops Q (o :: rest) a w := by
  obtain ⟨i0, hi, hz0, hz1, hz2⟩ := info_parts infoI
  refine wpList_make_full _ hg l c 24 hop B 3 i0 (.int .i64 0) 1 Try.underlying24 hi hz0 hz1 .i64 .i64 L C n hl hc hL hC ?_ ?_ hB ?_
  · rw [hz2]; omega
  · unfold maxLen; omega
  · intro w1 hown1 hgrow1
    refine hK w1 ⟨?_, ?_⟩ fun W hW => hW.grown hgrow1 hB (fun k h => by cases h)
    · intro x hx
      rw [List.mem_replicate] at hx
      rw [hx.2]; rfl
    · have e : (List.replicate n (0 : Int)).length = n := by simp
      rw [e]
      simpa [Value.cells, toList_madeCells_one] using hown1
end Go.Proofs.Ytokpgbpdmfibjaa
