/-
Lists of lists of integers that the call itself has made: how they are carried from world to world, the append of a list, and the laws' helpers on them (comparing, marking, reading marks). Conditions: at most 100000 lists.
-/
import Derived.Test.YtokpgbpdmfibjaaApp
import Derived.Test.YtokpgbpdmfibjaaHelp
import Derived.Deep.RegionHeld3
import Derived.Maps.AppendAt
namespace Go.Proofs.Ytokpgbpdmfibjaa
open Go.RowKit Go.ChangeShapes
set_option linter.unusedVariables false

/-- n lists of the call's own, the i-th one reads as R i; their values are vs; no two of them lie in one block. -/
structure OwnR (w : World) (B : Nat) (a : Option Addr) (c n : Nat) (R : Nat → List Int) (vs : List Value) : Prop where
  own : w.ownsRow B 24 1 (.slice a n c) n vs
  row : ∀ i, i < n → ∃ ai ci, vs[i]? = some (.slice ai (R i).length ci) ∧ OwnI w B ai ci (R i)
  out : ∀ (i : Nat) (v : Value) (b : Nat), vs[i]? = some v → v.ownBlock = some b → (Value.slice a n c).ownBlock ≠ some b
  dis : ∀ (i j : Nat) (u v : Value) (b : Nat), i < j → vs[i]? = some u → vs[j]? = some v → u.ownBlock = some b → v.ownBlock ≠ some b
theorem ownsRow_below {w w' : World} {B B' : Nat} {e : TypeId} {v : Value} {n : Nat} {xs : List Value} (h : w.ownsRow B e 1 v n xs) (hb : Below B' w w') (hB : w.heap.size ≤ B') : w'.ownsRow B e 1 v n xs := by
  refine ⟨h.1, ?_⟩
  rcases h.2 with h2 | ⟨g, c, cur, hv, hg, hh, r⟩
  · exact .inl h2
  · have := (Array.getElem?_eq_some_iff.1 hh).1
    exact .inr ⟨g, c, cur, hv, hg, by rw [hb.block g (by omega)]; exact hh, r⟩
theorem OwnR.below {w w' : World} {B B' : Nat} {a : Option Addr} {c n : Nat} {R : Nat → List Int} {vs : List Value} (h : OwnR w B a c n R vs) (hb : Below B' w w') (hB : w.heap.size ≤ B') : OwnR w' B a c n R vs :=
  ⟨ownsRow_below h.own hb hB, fun i hi => by obtain ⟨ai, ci, h1, h2⟩ := h.row i hi; exact ⟨ai, ci, h1, h2.below hb hB⟩, h.out, h.dis⟩
theorem OwnR.len {w : World} {B : Nat} {a : Option Addr} {c n : Nat} {R : Nat → List Int} {vs : List Value} (h : OwnR w B a c n R vs) : vs.length = n := by have := h.own.1; omega
theorem OwnR.outLt {w : World} {B : Nat} {a : Option Addr} {c n : Nat} {R : Nat → List Int} {vs : List Value} (h : OwnR w B a c n R vs) : ∀ b, (Value.slice a n c).ownBlock = some b → B ≤ b ∧ b < w.heap.size := h.own.lt
theorem OwnR.rowLt {w : World} {B : Nat} {a : Option Addr} {c n : Nat} {R : Nat → List Int} {vs : List Value} (h : OwnR w B a c n R vs) (i : Nat) (v : Value) (b : Nat) (hv : vs[i]? = some v) (hb : v.ownBlock = some b) : B ≤ b ∧ b < w.heap.size := by
  have hi : i < n := by
    have := (List.getElem?_eq_some_iff.1 hv).1
    have := h.len
    omega
  obtain ⟨ai, ci, h1, h2⟩ := h.row i hi
  rw [hv] at h1
  cases h1
  cases ai with
  | none => simp [Value.ownBlock] at hb
  | some x => simp [Value.ownBlock] at hb; subst hb; exact h2.lt x rfl
theorem OwnR.mono {w : World} {B B' : Nat} {a : Option Addr} {c n : Nat} {R : Nat → List Int} {vs : List Value} (h : OwnR w B a c n R vs) (hB : B' ≤ B) : OwnR w B' a c n R vs := by
  refine ⟨⟨h.own.1, ?_⟩, fun i hi => by obtain ⟨ai, ci, h1, h2⟩ := h.row i hi; exact ⟨ai, ci, h1, h2.mono hB⟩, h.out, h.dis⟩
  rcases h.own.2 with h2 | ⟨g, c, cur, hv, hg, r⟩
  · exact .inl h2
  · exact .inr ⟨g, c, cur, hv, by omega, r⟩
theorem OwnR.congr {w : World} {B : Nat} {a : Option Addr} {c n : Nat} {R R' : Nat → List Int} {vs : List Value} (h : OwnR w B a c n R vs) (e : ∀ i, i < n → R' i = R i) : OwnR w B a c n R' vs :=
  ⟨h.own, fun i hi => by rw [e i hi]; exact h.row i hi, h.out, h.dis⟩
theorem OwnR.made {w : World} {B g : Nat} (hg : g = w.heap.size) (hB : B ≤ g) (R : Nat → List Int) : OwnR (w.alloc (.cells #[] 24)) B (some ⟨g, 0, none⟩) 0 0 R [] := by
  subst hg
  exact ⟨World.ownsRow_made w #[] 0 hB (by simp [maxLen]) (by simp), fun i hi => by omega, fun i v b h => by simp at h, fun i j u v b _ h => by simp at h⟩
/-- Behind writes to rows above it, all blocks of it being below. -/
theorem OwnR.below' {w w' : World} {B B' : Nat} {a : Option Addr} {c n : Nat} {R : Nat → List Int} {vs : List Value} (h : OwnR w B a c n R vs) (hb : Below B' w w') (ho : ∀ b, (Value.slice a n c).ownBlock = some b → b < B') (hr : ∀ (i : Nat) (v : Value) (b : Nat), vs[i]? = some v → v.ownBlock = some b → b < B') : OwnR w' B a c n R vs := by
  refine ⟨⟨h.own.1, ?_⟩, fun i hi => ?_, h.out, h.dis⟩
  · rcases h.own.2 with h2 | ⟨g, c, cur, hv, hg, hh, r⟩
    · exact .inl h2
    · have := ho g (by rw [hv]; rfl)
      exact .inr ⟨g, c, cur, hv, hg, by rw [hb.block g (by omega)]; exact hh, r⟩
  · obtain ⟨ai, ci, h1, h2⟩ := h.row i hi
    exact ⟨ai, ci, h1, h2.below' hb (fun x hx => hr i _ x.block h1 (by rw [hx]; rfl))⟩
/-- Behind writes to one row that is none of its blocks. -/
theorem OwnR.kept {w w' : World} {B : Nat} {a : Option Addr} {c n : Nat} {R : Nat → List Int} {vs : List Value} {q : Option Nat} (h : OwnR w B a c n R vs) (hg : w.grownBy w' q) (ho : ∀ b, (Value.slice a n c).ownBlock = some b → q ≠ some b) (hr : ∀ (i : Nat) (v : Value) (b : Nat), vs[i]? = some v → v.ownBlock = some b → q ≠ some b) : OwnR w' B a c n R vs := by
  refine ⟨h.own.kept hg ?_, fun i hi => ?_, h.out, h.dis⟩
  · cases hc : (Value.slice a n c).ownBlock with
    | none => exact .inl rfl
    | some b => exact .inr (fun e => ho b hc e.symm)
  · obtain ⟨ai, ci, h1, h2⟩ := h.row i hi
    refine ⟨ai, ci, h1, ⟨h2.1, h2.2.kept hg ?_⟩⟩
    cases hc : (Value.slice ai (R i).length ci).ownBlock with
    | none => exact .inl rfl
    | some b => exact .inr (fun e => hr i _ b h1 hc e.symm)

theorem infoS : (Try.prog.info? 24).map (fun i => (i.zero, i.size, i.bytes)) = some (some (.slice none 0 0), 1, 24) := by kernel_rfl

/-- THE WALK's LAW FOR 'append(out, f)', out a list of lists of the call's own: f's value lies in a new block of one cell. -/
theorem wpList_appS {ops : Array Oper} {rest : List Oper} {o : Oper} {act : Act} {Q : Exit → Act → World → Prop} {w0 : World} (hg : o.guard = none) (s x : Operand)
    (hop : o.op = .call { callee := .builtin .append, args := #[s, x], argTypes := #[28, 28] })
    (B : Nat) (a : Option Addr) (c n : Nat) (R R' : Nat → List Int) (vs : List Value) (af : Option Addr) (cf : Nat) (f : List Int) (hs : act.eval s = .slice a n c) (hx : act.eval x = .slice (some ⟨w0.heap.size, 0, none⟩) 1 1)
    (hown : OwnR w0 B a c n R vs) (hf : OwnI w0 B af cf f) (hfo : ∀ y, af = some y → (Value.slice a n c).ownBlock ≠ some y.block) (hfr : ∀ y, af = some y → ∀ (i : Nat) v, vs[i]? = some v → v.ownBlock ≠ some y.block)
    (hR1 : ∀ i, i < n → R' i = R i) (hR2 : R' n = f) (hlen : n ≤ 1000000) (hB : B ≤ w0.heap.size)
    (hK : ∀ a' c' w', OwnR w' B a' c' (n + 1) R' (vs ++ [.slice af f.length cf]) → (∀ W, Below B W w0 → Below B W w') → wpList Try.prog ops Q rest (act.put o.dst (.slice a' (n + 1) c')) w') :
    wpList Try.prog ops Q (o :: rest) act (w0.alloc (.cells #[.slice af f.length cf] 24)) := by
  obtain ⟨i0, hi, hz0, hz1, hz2⟩ := info_parts infoS
  refine wpList_append_own_at _ hg s x 28 hop B 24 i0 (.slice none 0 0) 1 24 Try.underlying28 hi hz0 hz1 hz2 rfl (by decide) _ _ vs hs (hown.own.alloc _) ⟨w0.heap.size, 0, none⟩ 1 1 [.slice af f.length cf] hx rfl (cell_one_new _ _ _) ?_ ?_ ?_ ?_ ?_
  · intro u hu; simp at hu; subst hu; rfl
  · unfold maxLen; omega
  · omega
  · simp; omega
  · intro v' w1 hown' hgrow _ hat
    have hlv := hown.len
    rcases hown'.2 with ⟨_, h0⟩ | ⟨g, cap, cur, hv, r⟩
    · omega
    · subst hv
      have hat2 : (Value.slice a n c).ownBlock = some g ∨ g = (w0.alloc (.cells #[.slice af f.length cf] 24)).heap.size := by
        rcases hat with h | h
        · exact .inl h.symm
        · refine .inr ?_
          simpa [Value.ownBlock] using h
      have hal := (Below.refl w0.heap.size w0).alloc (Nat.le_refl _) (.cells #[.slice af f.length cf] 24)
      have kp : ∀ (ai : Option Addr) (ci : Nat) (xs : List Int), OwnI w0 B ai ci xs → (∀ y, ai = some y → (Value.slice a n c).ownBlock ≠ some y.block) → OwnI w1 B ai ci xs := fun ai ci xs h hne => by
        refine ⟨h.1, (h.below hal (Nat.le_refl _)).2.kept hgrow ?_⟩
        cases ai with
        | none => exact .inl rfl
        | some y => exact .inr (fun e => hne y rfl e.symm)
      have hnl : ∀ b, b < w0.heap.size → (Value.slice a n c).ownBlock ≠ some b → g ≠ b := fun b hb hne e => by
        rcases hat2 with h | h
        · exact hne (by rw [h, e])
        · simp at h; omega
      refine hK (some ⟨g, 0, none⟩) cap w1 ⟨hown', fun i hi => ?_, fun i v b hv hb => ?_, fun i j u v b hij hu hv hb => ?_⟩ fun W hW => (hW.alloc hB _).grown hgrow (by simp; omega) (fun k hk => (hown.outLt k hk).1)
      · by_cases e : i = n
        · subst e
          refine ⟨af, cf, ?_, by rw [hR2]; exact kp af cf f hf hfo⟩
          rw [hR2, List.getElem?_append_right (by omega)]
          simp [hlv]
        · obtain ⟨ai, ci, h1, h2⟩ := hown.row i (by omega)
          refine ⟨ai, ci, ?_, by rw [hR1 i (by omega)]; exact kp ai ci _ h2 (fun y hy => hown.out i _ y.block h1 (by rw [hy]; rfl))⟩
          rw [hR1 i (by omega), List.getElem?_append_left (by omega)]
          exact h1
      · have hgb : g ≠ b := by
          by_cases e : i < vs.length
          · rw [List.getElem?_append_left e] at hv
            exact hnl b (hown.rowLt i v b hv hb).2 (hown.out i v b hv hb)
          · rw [List.getElem?_append_right (by omega)] at hv
            have e2 : i - vs.length = 0 := by
              have := (List.getElem?_eq_some_iff.1 hv).1
              simp at this; omega
            rw [e2] at hv
            simp at hv
            subst hv
            cases haf : af with
            | none => rw [haf] at hb; simp [Value.ownBlock] at hb
            | some y =>
              rw [haf] at hb; simp [Value.ownBlock] at hb
              subst hb
              exact hnl _ (hf.lt y haf).2 (hfo y haf)
        simpa [Value.ownBlock] using hgb
      · have hi : i < vs.length := by
          have := (List.getElem?_eq_some_iff.1 hv).1
          simp at this; omega
        rw [List.getElem?_append_left hi] at hu
        by_cases e : j < vs.length
        · rw [List.getElem?_append_left e] at hv
          exact hown.dis i j u v b hij hu hv hb
        · rw [List.getElem?_append_right (by omega)] at hv
          have e2 : j - vs.length = 0 := by
            have := (List.getElem?_eq_some_iff.1 hv).1
            simp at this; omega
          rw [e2] at hv
          simp at hv
          subst hv
          cases haf : af with
          | none => simp [Value.ownBlock]
          | some y =>
            intro hc
            simp [Value.ownBlock] at hc
            exact hfr y haf i u hu (by rw [hc]; exact hb)

/-- What is read of a list of lists. -/
structure RdR (w : World) (a : Option Addr) (n : Nat) (R : Nat → List Int) (vs : List Value) : Prop where
  cells : n = 0 ∨ ∃ b off, a = some ⟨b, off, none⟩ ∧ b < w.heap.size ∧ ∀ i, i < n → w.cell? ⟨b, off + i, none⟩ = vs[i]?
  row : ∀ i, i < n → ∃ ai ci, vs[i]? = some (.slice ai (R i).length ci) ∧ Ints w ai ci (R i)
theorem OwnR.rd {w : World} {B : Nat} {a : Option Addr} {c n : Nat} {R : Nat → List Int} {vs : List Value} (h : OwnR w B a c n R vs) : RdR w a n R vs := by
  refine ⟨?_, fun i hi => by obtain ⟨ai, ci, h1, h2⟩ := h.row i hi; exact ⟨ai, ci, h1, h2.ints⟩⟩
  rcases h.own.2 with ⟨_, h2⟩ | ⟨g, cap, cur, hv, hg, hh, r⟩
  · exact .inl h2
  · right
    simp only [Value.slice.injEq, true_and] at hv
    obtain ⟨rfl, rfl⟩ := hv
    refine ⟨g, 0, rfl, (Array.getElem?_eq_some_iff.1 hh).1, fun i hi => ?_⟩
    have := h.own.cellAt i (by omega)
    rw [Nat.zero_add]
    exact this
theorem RdR.below {w w' : World} {B : Nat} {a : Option Addr} {n : Nat} {R : Nat → List Int} {vs : List Value} (h : RdR w a n R vs) (hb : Below B w w') (hB : w.heap.size ≤ B) : RdR w' a n R vs := by
  refine ⟨?_, fun i hi => by obtain ⟨ai, ci, h1, h2⟩ := h.row i hi; exact ⟨ai, ci, h1, h2.below hb hB⟩⟩
  rcases h.cells with h | ⟨b, off, ha, hlt, hc⟩
  · exact .inl h
  · exact .inr ⟨b, off, ha, by have := hb.size; omega, fun i hi => (hb.cell (p := ⟨b, off + i, none⟩) (by show b < B; omega)).trans (hc i hi)⟩

theorem Ints.drewI {w : World} {a : Option Addr} {c : Nat} {xs : List Int} (h : Ints w a c xs) : Ints w.drew a c xs := h
theorem undrewB {w w' : World} (h : Below w.drew.heap.size w.drew w') : Below w.heap.size w w' := ⟨h.os, h.tape, h.output, h.size, h.block⟩


end Go.Proofs.Ytokpgbpdmfibjaa
