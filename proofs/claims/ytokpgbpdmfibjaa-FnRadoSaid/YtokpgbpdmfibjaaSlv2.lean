/-
The program's SolutionsIn: the function that it hands to the search, and itself. Conditions: lengths at most 2000000.
-/
import Derived.Test.YtokpgbpdmfibjaaSlv
import Derived.Deep.AppendLies
import Derived.Deep.RegionLaw
import Derived.Outline
namespace Go.Proofs.Ytokpgbpdmfibjaa
open Go.RowKit Go.ChangeShapes
set_option linter.unusedVariables false

/-- A list of lists behind an append, out of what the law of the append says. -/
theorem OwnR.of_app {w0 w1 : World} {B : Nat} {a a' : Option Addr} {c c' n : Nat} {R R' : Nat → List Int} {vs : List Value} {af : Option Addr} {cf : Nat} {f : List Int} (hown : OwnR w0 B a c n R vs) (hf : OwnI w0 B af cf f)
    (hfo : ∀ y, af = some y → (Value.slice a n c).ownBlock ≠ some y.block) (hfr : ∀ y, af = some y → ∀ (i : Nat) v, vs[i]? = some v → v.ownBlock ≠ some y.block)
    (hR1 : ∀ i, i < n → R' i = R i) (hR2 : R' n = f) (hown' : w1.ownsRow B 24 1 (.slice a' (n + 1) c') (n + 1) (vs ++ [.slice af f.length cf])) (hgrow : w0.grownBy w1 (Value.slice a n c).ownBlock)
    (hat : ∀ b, (Value.slice a' (n + 1) c').ownBlock = some b → (Value.slice a n c).ownBlock = some b ∨ w0.heap.size ≤ b) : OwnR w1 B a' c' (n + 1) R' (vs ++ [.slice af f.length cf]) := by
  have hlv := hown.len
  have kp : ∀ (ai : Option Addr) (ci : Nat) (xs : List Int), OwnI w0 B ai ci xs → (∀ y, ai = some y → (Value.slice a n c).ownBlock ≠ some y.block) → OwnI w1 B ai ci xs := fun ai ci xs h hne => by
    refine ⟨h.1, h.2.kept hgrow ?_⟩
    cases ai with
    | none => exact .inl rfl
    | some y => exact .inr (fun e => hne y rfl e.symm)
  have hnl : ∀ b g, b < w0.heap.size → (Value.slice a n c).ownBlock ≠ some b → (Value.slice a' (n + 1) c').ownBlock = some g → g ≠ b := fun b g hb hne hg e => by
    subst e
    rcases hat g hg with h | h
    · exact hne h
    · omega
  refine ⟨hown', fun i hi => ?_, fun i v b hv hb => ?_, fun i j u v b hij hu hv hb => ?_⟩
  · by_cases e : i = n
    · subst e
      refine ⟨af, cf, ?_, by rw [hR2]; exact kp af cf f hf hfo⟩
      rw [hR2, List.getElem?_append_right (by omega)]
      simp [hlv]
    · obtain ⟨ai, ci, h1, h2⟩ := hown.row i (by omega)
      refine ⟨ai, ci, ?_, by rw [hR1 i (by omega)]; exact kp ai ci _ h2 (fun y hy => hown.out i _ y.block h1 (by rw [hy]; rfl))⟩
      rw [hR1 i (by omega), List.getElem?_append_left (by omega)]
      exact h1
  · intro hg
    by_cases e : i < vs.length
    · rw [List.getElem?_append_left e] at hv
      exact hnl b b (hown.rowLt i v b hv hb).2 (hown.out i v b hv hb) hg rfl
    · rw [List.getElem?_append_right (by omega)] at hv
      have e2 : i - vs.length = 0 := by
        have := (List.getElem?_eq_some_iff.1 hv).1
        simp at this; omega
      rw [e2] at hv
      simp at hv
      subst hv
      cases haf : af with
      | none => rw [haf] at hb; simp [Value.ownBlock] at hb
      | some y =>
        rw [haf] at hb; simp [Value.ownBlock] at hb
        subst hb
        exact hnl _ _ (hf.lt y haf).2 (hfo y haf) hg rfl
  · have hi : i < vs.length := by
      have := (List.getElem?_eq_some_iff.1 hv).1
      simp at this; omega
    rw [List.getElem?_append_left hi] at hu
    by_cases e : j < vs.length
    · rw [List.getElem?_append_left e] at hv
      exact hown.dis i j u v b hij hu hv hb
    · rw [List.getElem?_append_right (by omega)] at hv
      have e2 : j - vs.length = 0 := by
        have := (List.getElem?_eq_some_iff.1 hv).1
        simp at this; omega
      rw [e2] at hv
      simp at hv
      subst hv
      cases haf : af with
      | none => simp [Value.ownBlock]
      | some y =>
        intro hc
        simp [Value.ownBlock] at hc
        exact hfr y haf i u hu (by rw [hc]; exact hb)
theorem getD_appL {F : List (List Int)} {f : List Int} {i : Nat} (h : i < F.length) : (F ++ [f]).getD i [] = F.getD i [] := by
  rw [List.getD_eq_getElem?_getD, List.getD_eq_getElem?_getD, List.getElem?_append_left h]
theorem getD_appL' {F : List (List Int)} {f : List Int} : (F ++ [f]).getD F.length [] = f := by
  simp [List.getD_eq_getElem?_getD]
/-- What a call that hands back a new list of lists and a truth leaves. -/
def GaveQ (w : World) (F : List (List Int)) (b : Bool) (e : Ending) (w' : World) : Prop :=
  ∃ a c vs, e = .returned (.tuple #[.slice a F.length c, .bool b]) ∧ OwnR w' w.heap.size a c F.length (fun i => F.getD i []) vs ∧ Below w.heap.size w w'

/-- A block that is none of the boxes. -/
def OutQ (bc bk bx bn bt bm bo b : Nat) : Prop := b ≠ bc ∧ b ≠ bk ∧ b ≠ bx ∧ b ≠ bn ∧ b ≠ bt ∧ b ≠ bm ∧ b ≠ bo
/-- The box of the solutions that have been found. -/
structure BoxQ (B bo bc bk bx bn bt bm : Nat) (L : List (List Int)) (ao : Option Addr) (co : Nat) (vs : List Value) (w : World) : Prop where
  ho : w.heap[bo]? = some (.cells #[.slice ao L.length co] 28 (0, 0))
  oo : OwnR w B ao co L.length (fun i => L.getD i []) vs
  eo : ∀ b, (Value.slice ao L.length co).ownBlock = some b → OutQ bc bk bx bn bt bm bo b
  er : ∀ (i : Nat) (v : Value) (b : Nat), vs[i]? = some v → v.ownBlock = some b → OutQ bc bk bx bn bt bm bo b
  ne : bo ≠ bc ∧ bo ≠ bk ∧ bo ≠ bx ∧ bo ≠ bn ∧ bo ≠ bt ∧ bo ≠ bm
def StQ (B bo bc bk bx bn bt bm : Nat) (L : List (List Int)) (w : World) : Prop := ∃ ao co vs, BoxQ B bo bc bk bx bn bt bm L ao co vs w
theorem StQ.set {B bo bc bk bx bn bt bm : Nat} {L : List (List Int)} {w : World} (j : Nat) (v : Value) (h : StQ B bo bc bk bx bn bt bm L w) : StQ B bo bc bk bx bn bt bm L (w.setCell ⟨bm, j, none⟩ v) := by
  obtain ⟨ao, co, vs, h⟩ := h
  have hg : w.grownBy (w.setCell ⟨bm, j, none⟩ v) (some bm) := ⟨rfl, rfl, rfl, by simp [World.setCell], fun k _ hne => Below.heap_setCell _ _ _ _ (fun e => hne (by rw [e]))⟩
  obtain ⟨d1, d2, d3, d4, d5, d6⟩ := h.ne
  refine ⟨ao, co, vs, one_grown h.ho hg (by simpa using d6), h.oo.kept hg (fun b hb e => ?_) (fun i v b hv hb e => ?_), h.eo, h.er, h.ne⟩
  · exact (h.eo b hb).2.2.2.2.2.1 (by simpa using e.symm)
  · exact (h.er i v b hv hb).2.2.2.2.2.1 (by simpa using e.symm)
theorem StQ.drew {B bo bc bk bx bn bt bm : Nat} {L : List (List Int)} {w : World} (h : StQ B bo bc bk bx bn bt bm L w) : StQ B bo bc bk bx bn bt bm L w.drew := by
  obtain ⟨ao, co, vs, h⟩ := h
  exact ⟨ao, co, vs, h.ho, h.oo.below (Below.refl _ _).drew (Nat.le_refl _), h.eo, h.er, h.ne⟩

theorem fin_q {w0 w w1 w2 : World} {B bo bc bk bx bn bt bm : Nat} {a0 : Option Addr} {c0 : Nat} {c : List Int} {n K : Nat} {caps : Array Value} {L : List (List Int)} {x : List Int} {ao : Option Addr} {co : Nat} {vs : List Value} {af : Option Addr} {cf gg cap : Nat}
    (bq : BoxQ B bo bc bk bx bn bt bm L ao co vs w) (env : EnvQ w B bc bk bx bn bt bm a0 c0 c n K caps x) (b1 : Below w.heap.size w w1) (of : OwnI w1 w.heap.size af cf x) (hBo : B ≤ bo) (hB0 : w0.heap.size ≤ B) (hbel : Below B w0 w)
    (hown2 : w2.ownsRow B 24 1 (.slice (some ⟨gg, 0, none⟩) (L.length + 1) cap) (L.length + 1) (vs ++ [.slice af x.length cf])) (hgrow : w1.grownBy w2 (Value.slice ao L.length co).ownBlock) (hat : (Value.slice ao L.length co).ownBlock = some gg ∨ gg = w1.heap.size + 1) :
    StQ B bo bc bk bx bn bt bm (L ++ [x]) (w2.setCell ⟨bo, 0, none⟩ (.slice (some ⟨gg, 0, none⟩) (L.length + 1) cap)) ∧ KeptQ bc bk bx bn bt bm w (w2.setCell ⟨bo, 0, none⟩ (.slice (some ⟨gg, 0, none⟩) (L.length + 1) cap)) ∧ Below B w0 (w2.setCell ⟨bo, 0, none⟩ (.slice (some ⟨gg, 0, none⟩) (L.length + 1) cap)) := by
  have zo := lt_of_block bq.ho
  have z1 := b1.size
  have l1 := lt_of_block env.hc
  have l2 := lt_of_block env.hk
  have l3 := lt_of_block env.hx
  have l4 := lt_of_block env.hn
  have l5 := lt_of_block env.ht
  have l6 := (env.ox.lt _ rfl).2
  simp only at l6
  have out1 := bq.oo.outLt
  have hat2 : ∀ b, (Value.slice (some ⟨gg, 0, none⟩) (L.length + 1) cap).ownBlock = some b → (Value.slice ao L.length co).ownBlock = some b ∨ w1.heap.size ≤ b := fun b hb => by
    have hb' : gg = b := by simpa [Value.ownBlock] using hb
    rcases hat with h | h
    · exact .inl (by rw [h, hb'])
    · exact .inr (by omega)
  have oo1 := bq.oo.below b1 (Nat.le_refl _)
  have of1 := of.mono (show B ≤ w.heap.size by omega)
  have oo2 : OwnR w2 B (some ⟨gg, 0, none⟩) cap (L.length + 1) (fun i => (L ++ [x]).getD i []) (vs ++ [.slice af x.length cf]) := by
    refine OwnR.of_app oo1 of1 (fun y hy h => ?_) (fun y hy i v hv h => ?_) (fun i hi => getD_appL hi) getD_appL' hown2 hgrow hat2
    · have := (of.lt y hy).1; have := (out1 _ h).2; omega
    · have := (of.lt y hy).1; have := (bq.oo.rowLt i v _ hv h).2; omega
  have kb : ∀ b, b < w.heap.size → (Value.slice ao L.length co).ownBlock ≠ some b → w2.heap[b]? = w.heap[b]? := fun b hb hne => by
    rw [hgrow.block b (by omega) (fun e => hne e.symm), b1.block b hb]
  have ko : w2.heap[bo]? = some (.cells #[.slice ao L.length co] 28 (0, 0)) := by rw [kb bo zo (fun e => (bq.eo bo e).2.2.2.2.2.2 rfl)]; exact bq.ho
  have hl : (L ++ [x]).length = L.length + 1 := by simp
  have eo2 : ∀ b, (Value.slice (some ⟨gg, 0, none⟩) (L.length + 1) cap).ownBlock = some b → OutQ bc bk bx bn bt bm bo b := fun b hb => by
    rcases hat2 b hb with h | h
    · exact bq.eo b h
    · exact ⟨by omega, by omega, by omega, by omega, by omega, by omega, by omega⟩
  have er2 : ∀ (i : Nat) (v : Value) (b : Nat), (vs ++ [.slice af x.length cf])[i]? = some v → v.ownBlock = some b → OutQ bc bk bx bn bt bm bo b := fun i v b hv hb => by
    by_cases e : i < vs.length
    · rw [List.getElem?_append_left e] at hv
      exact bq.er i v b hv hb
    · rw [List.getElem?_append_right (by omega)] at hv
      have e2 : i - vs.length = 0 := by
        have := (List.getElem?_eq_some_iff.1 hv).1
        simp at this; omega
      rw [e2] at hv
      simp at hv
      subst hv
      cases haf : af with
      | none => rw [haf] at hb; simp [Value.ownBlock] at hb
      | some y =>
        rw [haf] at hb; simp [Value.ownBlock] at hb
        subst hb
        have := (of.lt y haf).1
        exact ⟨by omega, by omega, by omega, by omega, by omega, by omega, by omega⟩
  have hs := grown_set (w := w2) bo (.slice (some ⟨gg, 0, none⟩) (L.length + 1) cap)
  refine ⟨⟨some ⟨gg, 0, none⟩, cap, vs ++ [.slice af x.length cf], ?_, ?_, ?_, er2, bq.ne⟩, ?_, ?_⟩
  · rw [hl]; exact one_setCell ko
  · rw [hl]
    exact oo2.kept hs (fun b hb e => (eo2 b hb).2.2.2.2.2.2 (by simpa using e.symm)) (fun i v b hv hb e => (er2 i v b hv hb).2.2.2.2.2.2 (by simpa using e.symm))
  · rw [hl]; exact eo2
  · obtain ⟨n1, n2, n3, n4, n5, n6⟩ := bq.ne
    intro b hb
    have hbl : b < w.heap.size := by rcases hb with h | h | h | h | h | h <;> omega
    have hbo : b ≠ bo := by rcases hb with h | h | h | h | h | h <;> omega
    rw [Below.heap_setCell _ _ _ _ hbo]
    refine kb b hbl (fun e => ?_)
    obtain ⟨e1, e2, e3, e4, e5, e6, e7⟩ := bq.eo b e
    rcases hb with h | h | h | h | h | h <;> simp_all
  · exact (((hbel.trans (b1.mono (by omega))).grown hgrow (by omega) (fun k hk => (out1 k hk).1))).setCell (p := ⟨bo, 0, none⟩) hBo _
set_option maxRecDepth 20000 in
set_option maxHeartbeats 3200000 in
theorem take_q (w0 : World) (B bo : Nat) (a0 : Option Addr) (c0 : Nat) (c : List Int) (n : Nat) (hB0 : w0.heap.size ≤ B) (hBo : B ≤ bo) (hc4 : c.length ≤ 4) : ∀ bc bk bx bn bt bm (L : List (List Int)) (x : List Int) (w : World), StQ B bo bc bk bx bn bt bm L w → EnvQ w B bc bk bx bn bt bm a0 c0 c n 110 #[.pointer (some ⟨bo, 0, none⟩)] x → (∀ y ∈ x, 1 ≤ y ∧ y ≤ (n : Int)) → Below B w0 w → L.length ≤ 30000 →
      Calls Try.prog 110 (#[.slice (some ⟨bm, 0, none⟩) c.length c.length] ++ #[.pointer (some ⟨bo, 0, none⟩)]) w fun e w' => e = .returned (.bool false) ∧ StQ B bo bc bk bx bn bt bm (L ++ [x]) w' ∧ KeptQ bc bk bx bn bt bm w w' ∧ Below B w0 w' := by
  intro bc bk bx bn bt bm L x w st env hx hbel hL
  obtain ⟨ao, co, vs, bq⟩ := st
  have hlx := env.lx
  have CC := copyInts_any (some ⟨bm, 0, none⟩) c.length x w.drew env.drew.ox.ints (by omega)
  rw [hlx] at CC
  have CC1 := Lib.hid CC
  have q1 := cell_of_one bq.ho
  have q2 := free_of_one bq.ho
  have zo := lt_of_block bq.ho
  have HE := Lib.hid env
  have HQ := Lib.hid bq
  have HBL := Lib.hid hbel
  have hnbo : some bo ≠ (Value.slice ao L.length co).ownBlock := fun e => (bq.eo bo e.symm).2.2.2.2.2.2 rfl
  obtain ⟨i0, hi0, hz0, hz1, hz2⟩ := info_parts infoS
  clear CC hlx hx env bq hbel
  go_enter Try.func110, Try.ntmps110
  go_wp2_with fail
  go_region_law (first
    | (refine step_append_lies _ (by rfl) _ _ _ (by rfl) B 24 i0 _ 1 24 Try.underlying28 hi0 hz0 hz1 hz2 rfl (by omega) (.slice ao L.length co) L.length vs (by rfl) (oo1.alloc _)
        ⟨w1.heap.size, 0, none⟩ 1 1 [.slice af x.length cf] (by rfl) (by rfl) (World.news_of_block (cs := #[.slice af x.length cf]) (t := 24) (fr := (0, 0)) (heap_alloc_new w1 _)) (by simp [Value.oneCell'])
        (by omega) (by unfold maxLen; omega) (by omega) (by simp; omega) (w1.heap.size + 1) (by simp) ?_; intro gg cap w2 hown2 hgrow hat hlt; have al := (Below.refl w1.heap.size w1).alloc (Nat.le_refl _) (.cells #[.slice af x.length cf] 24); have q5 := ((hgrow.cell_far ⟨bo, 0, none⟩ (by simp; omega) hnbo).trans (al.cell (p := ⟨bo, 0, none⟩) zo1)).trans q3; have q6 := ((hgrow.frozen_far ⟨bo, 0, none⟩ (by simp; omega) hnbo).trans (al.frozen (p := ⟨bo, 0, none⟩) zo1)).trans ((b1.frozen (p := ⟨bo, 0, none⟩) zo).trans q2))
    | (go_simp; go_at_call 111; refine CC1.out.mono ?_; rintro e w1 ⟨af, cf, rfl, of, b1⟩; have q3 := (b1.cell (p := ⟨bo, 0, none⟩) zo).trans q1; have zo1 : bo < w1.heap.size := Nat.lt_of_lt_of_le zo b1.size; have oo1 := ownsRow_below HQ.out.oo.own (undrewB b1) (Nat.le_refl _)))
  all_goals
    have hfin := fin_q HQ.out HE.out (undrewB b1) of hBo hB0 HBL.out hown2 (grown_trans (World.grownBy_alloc _ _ _) hgrow) hat
    have HF := Lib.hid hfin
    clear hfin hown2 hgrow hat al q5 q6 q3 q1 q2 oo1
    go_wp2_with fail
    go_ret
    exact ⟨rfl, HF.out⟩
end Go.Proofs.Ytokpgbpdmfibjaa
