/-
The implementation's search through the images of the generators: the closure's contract. Conditions: orders of a group; at most 1000 lists.
-/
import Derived.Test.YtokpgbpdmfibjaaExt4
namespace Go.Proofs.Ytokpgbpdmfibjaa
open Go.RowKit Go.ChangeShapes
set_option linter.unusedVariables false

theorem grown_setAt {w : World} (b j : Nat) (v : Value) : w.grownBy (w.setCell ⟨b, j, none⟩ v) (some b) :=
  ⟨rfl, rfl, rfl, by simp [World.setCell], fun k _ hne => Below.heap_setCell _ _ _ _ (fun e => hne (by rw [e]))⟩
/-- The law of the append of a list, with what it says of the older blocks. -/
theorem wpList_appS2 {ops : Array Oper} {rest : List Oper} {o : Oper} {act : Act} {Q : Exit → Act → World → Prop} {w0 : World} (hg : o.guard = none) (s x : Operand)
    (hop : o.op = .call { callee := .builtin .append, args := #[s, x], argTypes := #[28, 28] })
    (B : Nat) (a : Option Addr) (c n : Nat) (R R' : Nat → List Int) (vs : List Value) (af : Option Addr) (cf : Nat) (f : List Int) (hs : act.eval s = .slice a n c) (hx : act.eval x = .slice (some ⟨w0.heap.size, 0, none⟩) 1 1)
    (hown : OwnR w0 B a c n R vs) (hf : OwnI w0 B af cf f) (hfo : ∀ y, af = some y → (Value.slice a n c).ownBlock ≠ some y.block) (hfr : ∀ y, af = some y → ∀ (i : Nat) v, vs[i]? = some v → v.ownBlock ≠ some y.block)
    (hR1 : ∀ i, i < n → R' i = R i) (hR2 : R' n = f) (hlen : n ≤ 1000000) (hB : B ≤ w0.heap.size)
    (hK : ∀ a' c' w', OwnR w' B a' c' (n + 1) R' (vs ++ [.slice af f.length cf]) → (∀ W, Below B W w0 → Below B W w') → w0.grownBy w' (Value.slice a n c).ownBlock → (∀ b, (Value.slice a' (n + 1) c').ownBlock = some b → (Value.slice a n c).ownBlock = some b ∨ w0.heap.size ≤ b) → wpList Try.prog ops Q rest (act.put o.dst (.slice a' (n + 1) c')) w') :
    wpList Try.prog ops Q (o :: rest) act (w0.alloc (.cells #[.slice af f.length cf] 24)) := by
  obtain ⟨i0, hi, hz0, hz1, hz2⟩ := info_parts infoS
  refine wpList_append_own_at _ hg s x 28 hop B 24 i0 (.slice none 0 0) 1 24 Try.underlying28 hi hz0 hz1 hz2 rfl (by decide) _ _ vs hs (hown.own.alloc _) ⟨w0.heap.size, 0, none⟩ 1 1 [.slice af f.length cf] hx rfl (cell_one_new _ _ _) ?_ ?_ ?_ ?_ ?_
  · intro u hu; simp at hu; subst hu; rfl
  · unfold maxLen; omega
  · omega
  · simp; omega
  · intro v' w1 hown' hgrow _ hat
    have hlv := hown.len
    rcases hown'.2 with ⟨_, h0⟩ | ⟨g, cap, cur, hv, r⟩
    · omega
    · subst hv
      have hat2 : (Value.slice a n c).ownBlock = some g ∨ g = (w0.alloc (.cells #[.slice af f.length cf] 24)).heap.size := by
        rcases hat with h | h
        · exact .inl h.symm
        · refine .inr ?_
          simpa [Value.ownBlock] using h
      have hal := (Below.refl w0.heap.size w0).alloc (Nat.le_refl _) (.cells #[.slice af f.length cf] 24)
      have kp : ∀ (ai : Option Addr) (ci : Nat) (xs : List Int), OwnI w0 B ai ci xs → (∀ y, ai = some y → (Value.slice a n c).ownBlock ≠ some y.block) → OwnI w1 B ai ci xs := fun ai ci xs h hne => by
        refine ⟨h.1, (h.below hal (Nat.le_refl _)).2.kept hgrow ?_⟩
        cases ai with
        | none => exact .inl rfl
        | some y => exact .inr (fun e => hne y rfl e.symm)
      have hnl : ∀ b, b < w0.heap.size → (Value.slice a n c).ownBlock ≠ some b → g ≠ b := fun b hb hne e => by
        rcases hat2 with h | h
        · exact hne (by rw [h, e])
        · simp at h; omega
      refine hK (some ⟨g, 0, none⟩) cap w1 ⟨hown', fun i hi => ?_, fun i v b hv hb => ?_, fun i j u v b hij hu hv hb => ?_⟩ (fun W hW => (hW.alloc hB _).grown hgrow (by simp; omega) (fun k hk => (hown.outLt k hk).1)) (grown_trans (World.grownBy_alloc _ _ _) hgrow) (fun b hb => by
        have hb' : g = b := by simpa [Value.ownBlock] using hb
        rcases hat2 with h | h
        · exact .inl (by rw [h, hb'])
        · simp at h; exact .inr (by omega))
      · by_cases e : i = n
        · subst e
          refine ⟨af, cf, ?_, by rw [hR2]; exact kp af cf f hf hfo⟩
          rw [hR2, List.getElem?_append_right (by omega)]
          simp [hlv]
        · obtain ⟨ai, ci, h1, h2⟩ := hown.row i (by omega)
          refine ⟨ai, ci, ?_, by rw [hR1 i (by omega)]; exact kp ai ci _ h2 (fun y hy => hown.out i _ y.block h1 (by rw [hy]; rfl))⟩
          rw [hR1 i (by omega), List.getElem?_append_left (by omega)]
          exact h1
      · have hgb : g ≠ b := by
          by_cases e : i < vs.length
          · rw [List.getElem?_append_left e] at hv
            exact hnl b (hown.rowLt i v b hv hb).2 (hown.out i v b hv hb)
          · rw [List.getElem?_append_right (by omega)] at hv
            have e2 : i - vs.length = 0 := by
              have := (List.getElem?_eq_some_iff.1 hv).1
              simp at this; omega
            rw [e2] at hv
            simp at hv
            subst hv
            cases haf : af with
            | none => rw [haf] at hb; simp [Value.ownBlock] at hb
            | some y =>
              rw [haf] at hb; simp [Value.ownBlock] at hb
              subst hb
              exact hnl _ (hf.lt y haf).2 (hfo y haf)
        simpa [Value.ownBlock] using hgb
      · have hi : i < vs.length := by
          have := (List.getElem?_eq_some_iff.1 hv).1
          simp at this; omega
        rw [List.getElem?_append_left hi] at hu
        by_cases e : j < vs.length
        · rw [List.getElem?_append_left e] at hv
          exact hown.dis i j u v b hij hu hv hb
        · rw [List.getElem?_append_right (by omega)] at hv
          have e2 : j - vs.length = 0 := by
            have := (List.getElem?_eq_some_iff.1 hv).1
            simp at this; omega
          rw [e2] at hv
          simp at hv
          subst hv
          cases haf : af with
          | none => simp [Value.ownBlock]
          | some y =>
            intro hc
            simp [Value.ownBlock] at hc
            exact hfr y haf i u hu (by rw [hc]; exact hb)

/-- A block that is none of the closure's boxes and not the images' row. -/
def OutE (bi bg bt bo bm b : Nat) : Prop := b ≠ bi ∧ b ≠ bg ∧ b ≠ bt ∧ b ≠ bo ∧ b ≠ bm
/-- What the closure has captured: the boxes of images, the group, of itself and of out. -/
structure EnvA (w : World) (B bi bg bt bo bm : Nat) (a0 : Option Addr) (n0 c0 r : Nat) (im : List Int) (ao : Option Addr) (co : Nat) (F : List (List Int)) (vs : List Value) : Prop where
  hi : w.heap[bi]? = some (.cells #[.slice (some ⟨bm, 0, none⟩) r r] 24 (0, 0))
  hg : w.heap[bg]? = some (.cells #[.slice a0 n0 c0] 26 (0, 0))
  ht : w.heap[bt]? = some (.cells #[.func (.func 77) #[] #[.pointer (some ⟨bi, 0, none⟩), .pointer (some ⟨bg, 0, none⟩), .pointer (some ⟨bt, 0, none⟩), .pointer (some ⟨bo, 0, none⟩)]] 79 (0, 0))
  ho : w.heap[bo]? = some (.cells #[.slice ao F.length co] 28 (0, 0))
  oi : OwnI w B (some ⟨bm, 0, none⟩) r im
  li : im.length = r
  oo : OwnR w B ao co F.length (fun i => F.getD i []) vs
  d : (bg ≠ bo ∧ bt ≠ bo ∧ bi ≠ bo ∧ bm ≠ bo) ∧ (bi ≠ bm ∧ bg ≠ bm ∧ bt ≠ bm)
  eo : ∀ b, (Value.slice ao F.length co).ownBlock = some b → OutE bi bg bt bo bm b
  er : ∀ (i : Nat) (v : Value) (b : Nat), vs[i]? = some v → v.ownBlock = some b → OutE bi bg bt bo bm b
theorem EnvA.below {w w1 : World} {B bi bg bt bo bm : Nat} {a0 : Option Addr} {n0 c0 r : Nat} {im : List Int} {ao : Option Addr} {co : Nat} {F : List (List Int)} {vs : List Value} (h : EnvA w B bi bg bt bo bm a0 n0 c0 r im ao co F vs) (hb : Below w.heap.size w w1) : EnvA w1 B bi bg bt bo bm a0 n0 c0 r im ao co F vs :=
  ⟨one_below h.hi hb (Nat.le_refl _), one_below h.hg hb (Nat.le_refl _), one_below h.ht hb (Nat.le_refl _), one_below h.ho hb (Nat.le_refl _), h.oi.below hb (Nat.le_refl _), h.li, h.oo.below hb (Nat.le_refl _), h.d, h.eo, h.er⟩
theorem EnvA.setI {w : World} {B bi bg bt bo bm : Nat} {a0 : Option Addr} {n0 c0 r : Nat} {im : List Int} {ao : Option Addr} {co : Nat} {F : List (List Int)} {vs : List Value} (h : EnvA w B bi bg bt bo bm a0 n0 c0 r im ao co F vs) (j : Nat) (x : Int) (hx : (Lit.int .i64 x).wf = true) : EnvA (w.setCell ⟨bm, j, none⟩ (.int .i64 x)) B bi bg bt bo bm a0 n0 c0 r (im.set j x) ao co F vs := by
  have hg := grown_setAt (w := w) bm j (.int .i64 x)
  obtain ⟨⟨d1, d2, d3, d4⟩, d5, d6, d7⟩ := h.d
  exact ⟨one_grown h.hi hg (by simpa using d5), one_grown h.hg hg (by simpa using d6), one_grown h.ht hg (by simpa using d7), one_grown h.ho hg (by simpa using fun e => d4 e.symm), h.oi.set j x hx, by rw [List.length_set]; exact h.li, h.oo.kept hg (fun b hb e => (h.eo b hb).2.2.2.2 (by simpa using e.symm)) (fun i v b hv hb e => (h.er i v b hv hb).2.2.2.2 (by simpa using e.symm)), h.d, h.eo, h.er⟩
theorem EnvA.app {w w1 : World} {B bi bg bt bo bm : Nat} {a0 : Option Addr} {n0 c0 r : Nat} {im : List Int} {ao : Option Addr} {co : Nat} {F : List (List Int)} {vs : List Value} (h : EnvA w B bi bg bt bo bm a0 n0 c0 r im ao co F vs) {f : List Int} {af : Option Addr} {cf : Nat} {a' : Option Addr} {c' : Nat}
    (ho : OwnR w1 B a' c' (F.length + 1) (fun i => (F ++ [f]).getD i []) (vs ++ [.slice af f.length cf])) (hg : w.grownBy w1 (Value.slice ao F.length co).ownBlock) (hat : ∀ b, (Value.slice a' (F.length + 1) c').ownBlock = some b → (Value.slice ao F.length co).ownBlock = some b ∨ w.heap.size ≤ b) (hf : ∀ y, af = some y → OutE bi bg bt bo bm y.block) :
    (w1.heap[bo]? = some (.cells #[.slice ao F.length co] 28 (0, 0))) ∧ EnvA (w1.setCell ⟨bo, 0, none⟩ (.slice a' (F.length + 1) c')) B bi bg bt bo bm a0 n0 c0 r im a' c' (F ++ [f]) (vs ++ [.slice af f.length cf]) := by
  obtain ⟨⟨d1, d2, d3, d4⟩, d5, d6, d7⟩ := h.d
  have hne : ∀ b, (b = bi ∨ b = bg ∨ b = bt ∨ b = bo ∨ b = bm) → some b ≠ (Value.slice ao F.length co).ownBlock := fun b hb e => by
    obtain ⟨e1, e2, e3, e4, e5⟩ := h.eo b e.symm
    rcases hb with hb | hb | hb | hb | hb <;> simp_all
  have ki := one_grown h.hi hg (hne bi (by simp))
  have kg := one_grown h.hg hg (hne bg (by simp))
  have kt := one_grown h.ht hg (hne bt (by simp))
  have ko := one_grown h.ho hg (hne bo (by simp))
  have km : OwnI w1 B (some ⟨bm, 0, none⟩) r im := h.oi.grown hg (fun x hx e => by cases hx; exact hne bm (by simp) e.symm)
  have hs := grown_set (w := w1) bo (.slice a' (F.length + 1) c')
  have hlF : (F ++ [f]).length = F.length + 1 := by simp
  have heo : ∀ b, (Value.slice a' (F.length + 1) c').ownBlock = some b → OutE bi bg bt bo bm b := fun b hb => by
    rcases hat b hb with h2 | h2
    · exact h.eo b h2
    · have l1 := lt_of_block h.hi
      have l2 := lt_of_block h.hg
      have l3 := lt_of_block h.ht
      have l4 := lt_of_block h.ho
      have l5 := (h.oi.lt _ rfl).2
      exact ⟨by omega, by omega, by omega, by omega, by simp at l5; omega⟩
  have her : ∀ (i : Nat) (v : Value) (b : Nat), (vs ++ [.slice af f.length cf])[i]? = some v → v.ownBlock = some b → OutE bi bg bt bo bm b := fun i v b hv hb => by
    by_cases e : i < vs.length
    · rw [List.getElem?_append_left e] at hv
      exact h.er i v b hv hb
    · rw [List.getElem?_append_right (by omega)] at hv
      have e2 : i - vs.length = 0 := by
        have := (List.getElem?_eq_some_iff.1 hv).1
        simp at this; omega
      rw [e2] at hv
      simp at hv
      subst hv
      cases haf : af with
      | none => rw [haf] at hb; simp [Value.ownBlock] at hb
      | some y =>
        rw [haf] at hb; simp [Value.ownBlock] at hb
        subst hb
        exact hf y haf
  refine ⟨ko, ⟨one_grown ki hs (by simpa using d3), one_grown kg hs (by simpa using d1), one_grown kt hs (by simpa using d2), ?_, km.grown hs (fun x hx e => by cases hx; simp at e; exact d4 e.symm), h.li, ?_, h.d, ?_, her⟩⟩
  · rw [hlF]; exact one_setCell ko
  · rw [hlF]
    exact ho.kept hs (fun b hb e => (heo b hb).2.2.2.1 (by simpa using e.symm)) (fun i v b hv hb e => (her i v b hv hb).2.2.2.1 (by simpa using e.symm))
  · rw [hlF]; exact heo
theorem EnvA.drew {w : World} {B bi bg bt bo bm : Nat} {a0 : Option Addr} {n0 c0 r : Nat} {im : List Int} {ao : Option Addr} {co : Nat} {F : List (List Int)} {vs : List Value} (h : EnvA w B bi bg bt bo bm a0 n0 c0 r im ao co F vs) : EnvA w.drew B bi bg bt bo bm a0 n0 c0 r im ao co F vs := ⟨h.hi, h.hg, h.ht, h.ho, ⟨h.oi.1, h.oi.2⟩, h.li, h.oo.below (Below.refl _ _).drew (Nat.le_refl _), h.d, h.eo, h.er⟩
end Go.Proofs.Ytokpgbpdmfibjaa
