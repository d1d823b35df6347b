/-
Appending a whole list; copying a list; worlds in which one block alone of the older ones has been written. Conditions: lengths at most 2000000.
-/
import Derived.Test.YtokpgbpdmfibjaaInts2
import Derived.Laws.AppendOwnNone
import Derived.OneCell
namespace Go.Proofs.Ytokpgbpdmfibjaa
open Go.RowKit Go.ChangeShapes

theorem OwnI.appAll {w : World} {B : Nat} {v : Value} {n : Nat} {xs ys : List Int} (hwf : ∀ n ∈ xs, (Lit.int .i64 n).wf = true) (hy : ∀ n ∈ ys, (Lit.int .i64 n).wf = true) (hn : n = xs.length + ys.length)
    (h : w.ownsRow B 3 1 v n (xs.map (.int .i64) ++ ys.map (.int .i64))) : ∃ a cap, v = .slice a (xs ++ ys).length cap ∧ OwnI w B a cap (xs ++ ys) := by
  subst hn
  have hl : (xs ++ ys).length = xs.length + ys.length := by simp
  have hm : (xs ++ ys).map (Value.int .i64) = xs.map (.int .i64) ++ ys.map (.int .i64) := by simp
  have hw : ∀ n ∈ xs ++ ys, (Lit.int .i64 n).wf = true := fun n hn => by
    rcases List.mem_append.1 hn with hn | hn
    · exact hwf n hn
    · exact hy n hn
  rcases h.2 with ⟨hv, h0⟩ | ⟨g, cap, cur, hv, r⟩
  · subst hv
    refine ⟨none, 0, by rw [hl, h0], hw, ?_⟩
    rw [hl, hm]
    rw [h0] at h ⊢
    exact h
  · subst hv
    exact ⟨some ⟨g, 0, none⟩, cap, by rw [hl], hw, by rw [hl, hm]; exact h⟩

/-- THE WALK's LAW FOR 'append(out, ys...)', out a list of the call's own, ys any list that reads. -/
theorem wpList_appAll {ops : Array Oper} {rest : List Oper} {o : Oper} {a : Act} {Q : Exit → Act → World → Prop} {w : World} (hg : o.guard = none) (s x : Operand)
    (hop : o.op = .call { callee := .builtin .append, args := #[s, x], argTypes := #[24, 24] })
    (B : Nat) (ad : Option Addr) (c : Nat) (xs : List Int) (a2 : Option Addr) (c2 : Nat) (ys : List Int) (hs : a.eval s = .slice ad xs.length c) (hx : a.eval x = .slice a2 ys.length c2)
    (hown : OwnI w B ad c xs) (hy : Ints w a2 c2 ys) (hlen : xs.length ≤ 2000000) (hlen2 : ys.length ≤ 2000000) (hB : B ≤ w.heap.size)
    (hK : ∀ ad' c' w', OwnI w' B ad' c' (xs ++ ys) → (∀ W, Below B W w → Below B W w') → wpList Try.prog ops Q rest (a.put o.dst (.slice ad' (xs.length + ys.length) c')) w') :
    wpList Try.prog ops Q (o :: rest) a w := by
  obtain ⟨i0, hi, hz0, hz1, hz2⟩ := info_parts infoI
  cases a2 with
  | none =>
    have hc := hy.2.2.1 rfl
    have hl0 : ys.length = 0 := by have := hy.1; omega
    have hys : ys = [] := List.eq_nil_of_length_eq_zero hl0
    subst hys
    subst hc
    refine wpList_append_own_none hg s x 24 hop B 3 i0 1 Try.underlying24 hi _ _ _ hs hown.2 hx ?_
    have h := hK ad c w (by simpa using hown) (fun W hW => hW)
    simpa using h
  | some ad2 =>
    have hcells : ∀ j u, (ys.map (Value.int .i64))[j]? = some u → w.cell? (ad2.add j) = some u := by
      intro j u hu
      rcases hy.2.2.2.2 with h | ⟨b, off, ha, _, hc⟩
      · subst h; simp at hu
      · obtain rfl : ad2 = ⟨b, off, none⟩ := by simpa using ha
        have hj : j < ys.length := by
          have := (List.getElem?_eq_some_iff.1 hu).1
          simpa using this
        rw [Addr.add_lit, hc j hj]
        simpa [hj] using hu
    refine wpList_append_own _ hg s x 24 hop B 3 i0 (.int .i64 0) 1 8 Try.underlying24 hi hz0 hz1 hz2 rfl (by decide) _ _ _ hs hown.2 ad2 ys.length c2 (ys.map (.int .i64)) hx (by simp) hcells (ints_oneCell _ _) ?_ ?_ hB ?_
    · unfold maxLen; omega
    · omega
    · intro v' w1 hown' hgrow _
      obtain ⟨a', c', rfl, hO⟩ := OwnI.appAll hown.1 hy.wf rfl hown'
      have h := hK a' c' w1 hO fun W hW => hW.grown hgrow hB (hown.ownBlock)
      simpa using h

/-- A copy in new memory: 'append([]int{}, l...)': the whole region. -/
theorem Ints.alloc {w : World} {a : Option Addr} {c : Nat} {xs : List Int} (h : Ints w a c xs) (o : Obj) : Ints (w.alloc o) a c xs :=
  h.below ((Below.refl w.heap.size w).alloc (Nat.le_refl _) o) (Nat.le_refl _)

/-- Behind writes to one older block that is not the list's. -/
theorem Ints.grown {w w' : World} {row : Option Nat} {a : Option Addr} {cap : Nat} {xs : List Int} (h : Ints w a cap xs) (hg : w.grownBy w' row) (hne : ∀ x, a = some x → row ≠ some x.block) : Ints w' a cap xs := by
  obtain ⟨h1, h2, h3, h4, h5⟩ := h
  refine ⟨h1, h2, h3, h4, ?_⟩
  rcases h5 with h5 | ⟨b, off, ha, hlt, hc⟩
  · exact .inl h5
  · refine .inr ⟨b, off, ha, Nat.lt_of_lt_of_le hlt hg.size, fun i hi => hg.cell (hc i hi) (fun e => hne _ ha e.symm)⟩
theorem OwnI.grown {w w' : World} {B : Nat} {row : Option Nat} {a : Option Addr} {cap : Nat} {xs : List Int} (h : OwnI w B a cap xs) (hg : w.grownBy w' row) (hne : ∀ x, a = some x → row ≠ some x.block) : OwnI w' B a cap xs := by
  refine ⟨h.1, h.2.kept hg ?_⟩
  cases a with
  | none => exact .inl rfl
  | some x => exact .inr (fun e => hne x rfl (by simpa [Value.ownBlock] using e.symm))

/-- 'Below' at the heap's size is 'grownBy' with no row. -/
theorem grown_of {w w' : World} (h : Below w.heap.size w w') (row : Option Nat) : w.grownBy w' row := ⟨h.os, h.tape, h.output, h.size, fun k hk _ => h.block k hk⟩
theorem grown_trans {w w1 w2 : World} {row : Option Nat} (h : w.grownBy w1 row) (k : w1.grownBy w2 row) : w.grownBy w2 row :=
  ⟨k.os.trans h.os, k.tape.trans h.tape, k.output.trans h.output, Nat.le_trans h.size k.size, fun i hi hne => (k.block i (Nat.lt_of_lt_of_le hi h.size) hne).trans (h.block i hi hne)⟩
theorem grown_below {w w1 w2 : World} {row : Option Nat} (h : w.grownBy w1 row) (k : Below w1.heap.size w1 w2) : w.grownBy w2 row := grown_trans h (grown_of k row)
/-- A block of one cell is kept. -/
theorem one_below {w w1 : World} {B b : Nat} {o : Obj} (h : w.heap[b]? = some o) (hb : Below B w w1) (hB : w.heap.size ≤ B) : w1.heap[b]? = some o := by
  have := lt_of_block h
  rw [hb.block b (by omega)]; exact h
theorem one_grown {w w1 : World} {row : Option Nat} {b : Nat} {o : Obj} (h : w.heap[b]? = some o) (hg : w.grownBy w1 row) (hne : some b ≠ row) : w1.heap[b]? = some o := by
  rw [hg.block b (lt_of_block h) hne]; exact h
theorem grown_set {w : World} (b : Nat) (v : Value) : w.grownBy (w.setCell ⟨b, 0, none⟩ v) (some b) :=
  ⟨rfl, rfl, rfl, by simp [World.setCell], fun k _ hne => Below.heap_setCell _ _ _ _ (fun e => hne (by rw [e]))⟩

theorem OwnI.alloc {w : World} {B : Nat} {a : Option Addr} {c : Nat} {xs : List Int} (h : OwnI w B a c xs) (o : Obj) : OwnI (w.alloc o) B a c xs :=
  h.below ((Below.refl w.heap.size w).alloc (Nat.le_refl _) o) (Nat.le_refl _)
theorem OwnI.made_at {w : World} {B n : Nat} (hn : n = w.heap.size) (hB : B ≤ n) : OwnI (w.alloc (.cells #[] 3)) B (some ⟨n, 0, none⟩) 0 [] := by
  subst hn; exact OwnI.made w B hB
theorem Ints.nil (w : World) (x : Addr) (c : Nat) (hc : c ≤ 2000000) : Ints w (some x) c [] := ⟨by simp, by unfold maxLen; omega, (fun h => by cases h), by simp, .inl rfl⟩
theorem new_at {w : World} {n : Nat} {o : Obj} (hn : n = w.heap.size) : (w.alloc o).heap[n]? = some o := by subst hn; exact heap_alloc_new w o
theorem one_alloc {w : World} {n : Nat} {o o' : Obj} (h : w.heap[n]? = some o) : (w.alloc o').heap[n]? = some o := by
  rw [Below.heap_alloc _ _ _ (lt_of_block h)]; exact h

set_option maxHeartbeats 400000 in
theorem copyInts_any (a0 : Option Addr) (c0 : Nat) (xs : List Int) (w : World) (h0 : Ints w a0 c0 xs) (hl : xs.length ≤ 2000000) :
    Calls Try.prog 111 #[.slice a0 xs.length c0] w (GaveI w xs) := by
  have hm := OwnI.made w w.heap.size (Nat.le_refl _)
  have h1 := h0.alloc (.cells #[] 3)
  have hb := (Below.refl w.heap.size w).alloc (Nat.le_refl _) (.cells #[] 3)
  have hl0 : ([] : List Int).length ≤ 2000000 := by simp
  have hsz : w.heap.size ≤ (w.alloc (.cells #[] 3)).heap.size := by simp
  go_enter Try.func111, Try.ntmps111
  go_wp2_with (at_builtin; refine wpList_appAll rfl _ _ rfl w.heap.size _ _ [] _ _ xs rfl rfl hm h1 hl0 hl hsz ?_)
  intro a' c' w1 hO hb1
  have hb2 := hb1 _ hb
  go_wp2_with fail
  go_ret
  exact ⟨_, _, rfl, hO, hb2⟩
end Go.Proofs.Ytokpgbpdmfibjaa
