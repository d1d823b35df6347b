/-
The reference's search for solutions: l25Find. Conditions: 2 to 4 coefficients from -9 to 9, numbers up to 12, at most 10000 solutions.
-/
import Derived.Test.YtokpgbpdmfibjaaSlv3
import Derived.Test.YtokpgbpdmfibjaaZc
import Derived.Deep.QuietTactic
import Derived.BigQuiet
import Derived.Laws.AppendOwnNone
namespace Go.Proofs.Ytokpgbpdmfibjaa
open Go.RowKit Go.ChangeShapes
set_option linter.unusedVariables false

theorem take_mid {α : Type} (F S R : List α) (m : Nat) (h : F.length ≤ m) : ((F ++ S.take (m - F.length)) ++ R).take m = (F ++ (S ++ R)).take m := by
  rw [List.append_assoc, List.take_append, List.take_append, List.take_of_length_le h]
  congr 1
  rw [List.take_append, List.take_append, List.take_take, Nat.min_self]
  by_cases e : S.length ≤ m - F.length
  · rw [List.take_of_length_le e, List.take_of_length_le h]
  · rw [List.length_take, Nat.min_eq_left (by omega), Nat.sub_self, show m - F.length - S.length = 0 by omega, List.take_of_length_le h]
theorem getD_appR {F G : List (List Int)} {i : Nat} : (F ++ G).getD i [] = if i < F.length then F.getD i [] else G.getD (i - F.length) [] := by
  split
  · rw [List.getD_eq_getElem?_getD, List.getD_eq_getElem?_getD, List.getElem?_append_left (by assumption)]
  · rw [List.getD_eq_getElem?_getD, List.getD_eq_getElem?_getD, List.getElem?_append_right (by omega)]
/-- A list of one list that has just been built. -/
theorem OwnR.made1 {w : World} {B g : Nat} {ax : Option Addr} {cx : Nat} {x : List Int} (hg : g = w.heap.size) (hB : B ≤ g) (hx : OwnI w B ax cx x) : OwnR (w.alloc (.cells #[.slice ax x.length cx] 24)) B (some ⟨g, 0, none⟩) 1 1 (fun i => [x].getD i []) [.slice ax x.length cx] := by
  subst hg
  have hl : ∀ (i : Nat) (v : Value) (b : Nat), [Value.slice ax x.length cx][i]? = some v → v.ownBlock = some b → b < w.heap.size := fun i v b hv hb => by
    have hi : i = 0 := by
      have := (List.getElem?_eq_some_iff.1 hv).1
      simp at this; omega
    subst hi
    simp at hv
    subst hv
    cases ax with
    | none => simp [Value.ownBlock] at hb
    | some y => simp [Value.ownBlock] at hb; subst hb; exact (hx.lt y rfl).2
  refine ⟨⟨by simp, .inr ⟨w.heap.size, 1, #[.slice ax x.length cx], rfl, hB, heap_alloc_new w _, by simp, by simp [maxLen], by simp, by simp⟩⟩, fun i hi => ?_, fun i v b hv hb => ?_, fun i j u v b hij hu hv => ?_⟩
  · obtain rfl : i = 0 := by omega
    exact ⟨ax, cx, by simp, by simpa using hx.alloc _⟩
  · have := hl i v b hv hb
    simp [Value.ownBlock]
    omega
  · have := (List.getElem?_eq_some_iff.1 hv).1
    simp at this; omega
/-- THE WALK's LAW FOR 'append(out, l...)', both lists of lists of the call's own, l's lists newer. -/
theorem wpList_appRR {ops : Array Oper} {rest : List Oper} {o : Oper} {act : Act} {Q : Exit → Act → World → Prop} {w : World} (hg : o.guard = none) (s x : Operand)
    (hop : o.op = .call { callee := .builtin .append, args := #[s, x], argTypes := #[28, 28] })
    (B B2 : Nat) (a : Option Addr) (c : Nat) (F : List (List Int)) (vs : List Value) (a2 : Option Addr) (c2 : Nat) (G : List (List Int)) (vs2 : List Value) (hs : act.eval s = .slice a F.length c) (hx : act.eval x = .slice a2 G.length c2)
    (h1 : OwnR w B a c F.length (fun i => F.getD i []) vs) (h2 : OwnR w B2 a2 c2 G.length (fun i => G.getD i []) vs2) (hBB : B ≤ B2)
    (hl1 : ∀ b, (Value.slice a F.length c).ownBlock = some b → b < B2) (hl2 : ∀ (i : Nat) (v : Value) (b : Nat), vs[i]? = some v → v.ownBlock = some b → b < B2) (hlen : F.length + G.length ≤ 1000000) (hB : B ≤ w.heap.size) (H : List (List Int)) (hH : F ++ G = H)
    (hK : ∀ a' c' w', OwnR w' B a' c' H.length (fun i => H.getD i []) (vs ++ vs2) → (∀ W, Below B W w → Below B W w') → wpList Try.prog ops Q rest (act.put o.dst (.slice a' H.length c')) w') :
    wpList Try.prog ops Q (o :: rest) act w := by
  subst hH
  obtain ⟨i0, hi, hz0, hz1, hz2⟩ := info_parts infoS
  have hv1 := h1.len
  have hv2 := h2.len
  cases a2 with
  | none =>
    have hn : G.length = 0 ∧ c2 = 0 := by
      rcases h2.own.2 with ⟨hv, h0⟩ | ⟨g, c', cur, hv, _⟩
      · simp at hv; exact ⟨h0, hv.2⟩
      · simp at hv
    obtain ⟨hn, rfl⟩ := hn
    have hG : G = [] := List.eq_nil_of_length_eq_zero hn
    subst hG
    have hvs : vs2 = [] := List.eq_nil_of_length_eq_zero (by simpa using hv2)
    subst hvs
    refine wpList_append_own_none hg s x 28 hop B 24 i0 1 Try.underlying28 hi _ _ _ hs h1.own hx ?_
    have h := hK a c w (by simpa using h1) (fun W hW => hW)
    simpa using h
  | some ad =>
    have had : ∃ g, ad = ⟨g, 0, none⟩ ∧ B2 ≤ g ∧ g < w.heap.size := by
      rcases h2.own.2 with ⟨hv, h0⟩ | ⟨g, c', cur, hv, hg, hh, _⟩
      · simp at hv
      · simp at hv
        exact ⟨g, hv.1, hg, (Array.getElem?_eq_some_iff.1 hh).1⟩
    obtain ⟨g2, rfl, hg2, hg3⟩ := had
    have hcells : ∀ j u, vs2[j]? = some u → w.cell? ((⟨g2, 0, none⟩ : Addr).add j) = some u := fun j u hu => by
      have hj : j < vs2.length := (List.getElem?_eq_some_iff.1 hu).1
      rw [Addr.add_lit, Nat.zero_add, h2.own.cellAt j (by omega)]
      exact hu
    have hone : ∀ u ∈ vs2, u.oneCell' = true := fun u hu => by
      obtain ⟨j, hj, rfl⟩ := List.mem_iff_getElem.1 hu
      obtain ⟨ai, ci, e, _⟩ := h2.row j (by omega)
      rw [List.getElem?_eq_getElem hj] at e
      rw [Option.some.inj e]
      rfl
    refine wpList_append_own_at _ hg s x 28 hop B 24 i0 (.slice none 0 0) 1 24 Try.underlying28 hi hz0 hz1 hz2 rfl (by decide) _ _ vs hs h1.own ⟨g2, 0, none⟩ G.length c2 vs2 hx (by simpa using hv2) hcells hone ?_ ?_ hB ?_
    · unfold maxLen; omega
    · omega
    · intro v' w1 hown' hgrow _ hat
      have hform : ∃ a' c', v' = .slice a' (F ++ G).length c' := by
        rcases hown'.2 with ⟨hv, h0⟩ | ⟨g, cap, cur, hv, r⟩
        · exact ⟨none, 0, by rw [hv, List.length_append, h0]⟩
        · exact ⟨some ⟨g, 0, none⟩, cap, by rw [hv, List.length_append]⟩
      obtain ⟨a', c', rfl⟩ := hform
      rw [List.length_append] at hown' hat
      have hlF : (F ++ G).length = F.length + G.length := List.length_append
      have kp : ∀ (ai : Option Addr) (ci : Nat) (xs : List Int) (Bi : Nat), OwnI w Bi ai ci xs → (∀ y, ai = some y → (Value.slice a F.length c).ownBlock ≠ some y.block) → OwnI w1 Bi ai ci xs := fun ai ci xs Bi h hne => by
        refine ⟨h.1, h.2.kept hgrow ?_⟩
        cases ai with
        | none => exact .inl rfl
        | some y => exact .inr (fun e => hne y rfl e.symm)
      have hnew : ∀ b, (Value.slice a' (F.length + G.length) c').ownBlock = some b → (Value.slice a F.length c).ownBlock = some b ∨ w.heap.size ≤ b := fun b hb => by
        rcases hat with h | h
        · exact .inl (by rw [← h]; exact hb)
        · right
          rw [hb] at h
          have := Option.some.inj h
          omega
      have hr2 : ∀ (j : Nat) (v : Value) (b : Nat), vs2[j]? = some v → v.ownBlock = some b → B2 ≤ b ∧ b < w.heap.size := fun j v b hv hb => h2.rowLt j v b hv hb
      refine hK a' c' w1 ?_ fun W hW => hW.grown hgrow hB (fun k hk => (h1.outLt k hk).1)
      rw [hlF]
      refine ⟨hown', fun i hi => ?_, fun i v b hv hb hc => ?_, fun i j u v b hij hu hv hb => ?_⟩
      · by_cases e : i < F.length
        · obtain ⟨ai, ci, k1, k2⟩ := h1.row i e
          have e2 : (F ++ G).getD i [] = F.getD i [] := by rw [getD_appR, if_pos e]
          simp only [e2]
          refine ⟨ai, ci, ?_, kp ai ci _ _ k2 (fun y hy => h1.out i _ y.block k1 (by rw [hy]; rfl))⟩
          rw [List.getElem?_append_left (by omega)]
          exact k1
        · obtain ⟨ai, ci, k1, k2⟩ := h2.row (i - F.length) (by omega)
          have e2 : (F ++ G).getD i [] = G.getD (i - F.length) [] := by rw [getD_appR, if_neg e]
          simp only [e2]
          refine ⟨ai, ci, ?_, (kp ai ci _ _ k2 (fun y hy hc => by
            have h3 := hl1 _ hc
            have h4 := (k2.lt y hy).1
            omega)).mono hBB⟩
          rw [List.getElem?_append_right (by omega), hv1]
          exact k1
      · have hnc := hnew b hc
        by_cases e : i < vs.length
        · rw [List.getElem?_append_left e] at hv
          rcases hnc with h | h
          · exact h1.out i v b hv hb h
          · have := (h1.rowLt i v b hv hb).2; omega
        · rw [List.getElem?_append_right (by omega)] at hv
          have h3 := hr2 _ v b hv hb
          rcases hnc with h | h
          · have := hl1 _ h; omega
          · omega
      · by_cases e : j < vs.length
        · rw [List.getElem?_append_left e] at hv
          rw [List.getElem?_append_left (by omega)] at hu
          exact h1.dis i j u v b hij hu hv hb
        · rw [List.getElem?_append_right (by omega)] at hv
          by_cases e2 : i < vs.length
          · rw [List.getElem?_append_left e2] at hu
            intro hc
            have h3 := hl2 i u b hu hb
            have h4 := (hr2 _ v b hv hc).1
            omega
          · rw [List.getElem?_append_right (by omega)] at hu
            exact h2.dis _ _ u v b (by omega) hu hv hb
end Go.Proofs.Ytokpgbpdmfibjaa
