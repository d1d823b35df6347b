/-
Lists of lists of integers that the call itself has made: how they are carried from world to world, the append of a list, and the laws' helpers on them (comparing, marking, reading marks). Conditions: at most 100000 lists.
-/
import Derived.Test.YtheeglaocflgmaaApp
import Derived.Test.YtheeglaocflgmaaHelp
import Derived.Deep.RegionHeld3
import Derived.Maps.AppendAt
namespace Go.Proofs.Ytheeglaocflgmaa
open Go.RowKit Go.ChangeShapes
set_option linter.unusedVariables false

/-- n lists of the call's own, the i-th one reads as R i; their values are vs; no two of them lie in one block. -/
structure OwnR (w : World) (B : Nat) (a : Option Addr) (c n : Nat) (R : Nat → List Int) (vs : List Value) : Prop where
  own : w.ownsRow B 26 1 (.slice a n c) n vs
  row : ∀ i, i < n → ∃ ai ci, vs[i]? = some (.slice ai (R i).length ci) ∧ OwnI w B ai ci (R i)
  out : ∀ (i : Nat) (v : Value) (b : Nat), vs[i]? = some v → v.ownBlock = some b → (Value.slice a n c).ownBlock ≠ some b
  dis : ∀ (i j : Nat) (u v : Value) (b : Nat), i < j → vs[i]? = some u → vs[j]? = some v → u.ownBlock = some b → v.ownBlock ≠ some b
theorem ownsRow_below {w w' : World} {B B' : Nat} {e : TypeId} {v : Value} {n : Nat} {xs : List Value} (h : w.ownsRow B e 1 v n xs) (hb : Below B' w w') (hB : w.heap.size ≤ B') : w'.ownsRow B e 1 v n xs := by
  refine ⟨h.1, ?_⟩
  rcases h.2 with h2 | ⟨g, c, cur, hv, hg, hh, r⟩
  · exact .inl h2
  · have := (Array.getElem?_eq_some_iff.1 hh).1
    exact .inr ⟨g, c, cur, hv, hg, by rw [hb.block g (by omega)]; exact hh, r⟩
theorem OwnR.below {w w' : World} {B B' : Nat} {a : Option Addr} {c n : Nat} {R : Nat → List Int} {vs : List Value} (h : OwnR w B a c n R vs) (hb : Below B' w w') (hB : w.heap.size ≤ B') : OwnR w' B a c n R vs :=
  ⟨ownsRow_below h.own hb hB, fun i hi => by obtain ⟨ai, ci, h1, h2⟩ := h.row i hi; exact ⟨ai, ci, h1, h2.below hb hB⟩, h.out, h.dis⟩
theorem OwnR.len {w : World} {B : Nat} {a : Option Addr} {c n : Nat} {R : Nat → List Int} {vs : List Value} (h : OwnR w B a c n R vs) : vs.length = n := by have := h.own.1; omega
theorem OwnR.outLt {w : World} {B : Nat} {a : Option Addr} {c n : Nat} {R : Nat → List Int} {vs : List Value} (h : OwnR w B a c n R vs) : ∀ b, (Value.slice a n c).ownBlock = some b → B ≤ b ∧ b < w.heap.size := h.own.lt
theorem OwnR.rowLt {w : World} {B : Nat} {a : Option Addr} {c n : Nat} {R : Nat → List Int} {vs : List Value} (h : OwnR w B a c n R vs) (i : Nat) (v : Value) (b : Nat) (hv : vs[i]? = some v) (hb : v.ownBlock = some b) : B ≤ b ∧ b < w.heap.size := by
  have hi : i < n := by
    have := (List.getElem?_eq_some_iff.1 hv).1
    have := h.len
    omega
  obtain ⟨ai, ci, h1, h2⟩ := h.row i hi
  rw [hv] at h1
  cases h1
  cases ai with
  | none => simp [Value.ownBlock] at hb
  | some x => simp [Value.ownBlock] at hb; subst hb; exact h2.lt x rfl
theorem OwnR.mono {w : World} {B B' : Nat} {a : Option Addr} {c n : Nat} {R : Nat → List Int} {vs : List Value} (h : OwnR w B a c n R vs) (hB : B' ≤ B) : OwnR w B' a c n R vs := by
  refine ⟨⟨h.own.1, ?_⟩, fun i hi => by obtain ⟨ai, ci, h1, h2⟩ := h.row i hi; exact ⟨ai, ci, h1, h2.mono hB⟩, h.out, h.dis⟩
  rcases h.own.2 with h2 | ⟨g, c, cur, hv, hg, r⟩
  · exact .inl h2
  · exact .inr ⟨g, c, cur, hv, by omega, r⟩
theorem OwnR.congr {w : World} {B : Nat} {a : Option Addr} {c n : Nat} {R R' : Nat → List Int} {vs : List Value} (h : OwnR w B a c n R vs) (e : ∀ i, i < n → R' i = R i) : OwnR w B a c n R' vs :=
  ⟨h.own, fun i hi => by rw [e i hi]; exact h.row i hi, h.out, h.dis⟩
theorem OwnR.made {w : World} {B g : Nat} (hg : g = w.heap.size) (hB : B ≤ g) (R : Nat → List Int) : OwnR (w.alloc (.cells #[] 26)) B (some ⟨g, 0, none⟩) 0 0 R [] := by
  subst hg
  exact ⟨World.ownsRow_made w #[] 0 hB (by simp [maxLen]) (by simp), fun i hi => by omega, fun i v b h => by simp at h, fun i j u v b _ h => by simp at h⟩
/-- Behind writes to rows above it, all blocks of it being below. -/
theorem OwnR.below' {w w' : World} {B B' : Nat} {a : Option Addr} {c n : Nat} {R : Nat → List Int} {vs : List Value} (h : OwnR w B a c n R vs) (hb : Below B' w w') (ho : ∀ b, (Value.slice a n c).ownBlock = some b → b < B') (hr : ∀ (i : Nat) (v : Value) (b : Nat), vs[i]? = some v → v.ownBlock = some b → b < B') : OwnR w' B a c n R vs := by
  refine ⟨⟨h.own.1, ?_⟩, fun i hi => ?_, h.out, h.dis⟩
  · rcases h.own.2 with h2 | ⟨g, c, cur, hv, hg, hh, r⟩
    · exact .inl h2
    · have := ho g (by rw [hv]; rfl)
      exact .inr ⟨g, c, cur, hv, hg, by rw [hb.block g (by omega)]; exact hh, r⟩
  · obtain ⟨ai, ci, h1, h2⟩ := h.row i hi
    exact ⟨ai, ci, h1, h2.below' hb (fun x hx => hr i _ x.block h1 (by rw [hx]; rfl))⟩
/-- Behind writes to one row that is none of its blocks. -/
theorem OwnR.kept {w w' : World} {B : Nat} {a : Option Addr} {c n : Nat} {R : Nat → List Int} {vs : List Value} {q : Option Nat} (h : OwnR w B a c n R vs) (hg : w.grownBy w' q) (ho : ∀ b, (Value.slice a n c).ownBlock = some b → q ≠ some b) (hr : ∀ (i : Nat) (v : Value) (b : Nat), vs[i]? = some v → v.ownBlock = some b → q ≠ some b) : OwnR w' B a c n R vs := by
  refine ⟨h.own.kept hg ?_, fun i hi => ?_, h.out, h.dis⟩
  · cases hc : (Value.slice a n c).ownBlock with
    | none => exact .inl rfl
    | some b => exact .inr (fun e => ho b hc e.symm)
  · obtain ⟨ai, ci, h1, h2⟩ := h.row i hi
    refine ⟨ai, ci, h1, ⟨h2.1, h2.2.kept hg ?_⟩⟩
    cases hc : (Value.slice ai (R i).length ci).ownBlock with
    | none => exact .inl rfl
    | some b => exact .inr (fun e => hr i _ b h1 hc e.symm)

theorem infoS : (Try.prog.info? 26).map (fun i => (i.zero, i.size, i.bytes)) = some (some (.slice none 0 0), 1, 24) := by kernel_rfl

/-- THE WALK's LAW FOR 'append(out, f)', out a list of lists of the call's own: f's value lies in a new block of one cell. -/
theorem wpList_appS {ops : Array Oper} {rest : List Oper} {o : Oper} {act : Act} {Q : Exit → Act → World → Prop} {w0 : World} (hg : o.guard = none) (s x : Operand)
    (hop : o.op = .call { callee := .builtin .append, args := #[s, x], argTypes := #[35, 35] })
    (B : Nat) (a : Option Addr) (c n : Nat) (R R' : Nat → List Int) (vs : List Value) (af : Option Addr) (cf : Nat) (f : List Int) (hs : act.eval s = .slice a n c) (hx : act.eval x = .slice (some ⟨w0.heap.size, 0, none⟩) 1 1)
    (hown : OwnR w0 B a c n R vs) (hf : OwnI w0 B af cf f) (hfo : ∀ y, af = some y → (Value.slice a n c).ownBlock ≠ some y.block) (hfr : ∀ y, af = some y → ∀ (i : Nat) v, vs[i]? = some v → v.ownBlock ≠ some y.block)
    (hR1 : ∀ i, i < n → R' i = R i) (hR2 : R' n = f) (hlen : n ≤ 1000000) (hB : B ≤ w0.heap.size)
    (hK : ∀ a' c' w', OwnR w' B a' c' (n + 1) R' (vs ++ [.slice af f.length cf]) → (∀ W, Below B W w0 → Below B W w') → wpList Try.prog ops Q rest (act.put o.dst (.slice a' (n + 1) c')) w') :
    wpList Try.prog ops Q (o :: rest) act (w0.alloc (.cells #[.slice af f.length cf] 26)) := by
  obtain ⟨i0, hi, hz0, hz1, hz2⟩ := info_parts infoS
  refine wpList_append_own_at _ hg s x 35 hop B 26 i0 (.slice none 0 0) 1 24 Try.underlying35 hi hz0 hz1 hz2 rfl (by decide) _ _ vs hs (hown.own.alloc _) ⟨w0.heap.size, 0, none⟩ 1 1 [.slice af f.length cf] hx rfl (cell_one_new _ _ _) ?_ ?_ ?_ ?_ ?_
  · intro u hu; simp at hu; subst hu; rfl
  · unfold maxLen; omega
  · omega
  · simp; omega
  · intro v' w1 hown' hgrow _ hat
    have hlv := hown.len
    rcases hown'.2 with ⟨_, h0⟩ | ⟨g, cap, cur, hv, r⟩
    · omega
    · subst hv
      have hat2 : (Value.slice a n c).ownBlock = some g ∨ g = (w0.alloc (.cells #[.slice af f.length cf] 26)).heap.size := by
        rcases hat with h | h
        · exact .inl h.symm
        · refine .inr ?_
          simpa [Value.ownBlock] using h
      have hal := (Below.refl w0.heap.size w0).alloc (Nat.le_refl _) (.cells #[.slice af f.length cf] 26)
      have kp : ∀ (ai : Option Addr) (ci : Nat) (xs : List Int), OwnI w0 B ai ci xs → (∀ y, ai = some y → (Value.slice a n c).ownBlock ≠ some y.block) → OwnI w1 B ai ci xs := fun ai ci xs h hne => by
        refine ⟨h.1, (h.below hal (Nat.le_refl _)).2.kept hgrow ?_⟩
        cases ai with
        | none => exact .inl rfl
        | some y => exact .inr (fun e => hne y rfl e.symm)
      have hnl : ∀ b, b < w0.heap.size → (Value.slice a n c).ownBlock ≠ some b → g ≠ b := fun b hb hne e => by
        rcases hat2 with h | h
        · exact hne (by rw [h, e])
        · simp at h; omega
      refine hK (some ⟨g, 0, none⟩) cap w1 ⟨hown', fun i hi => ?_, fun i v b hv hb => ?_, fun i j u v b hij hu hv hb => ?_⟩ fun W hW => (hW.alloc hB _).grown hgrow (by simp; omega) (fun k hk => (hown.outLt k hk).1)
      · by_cases e : i = n
        · subst e
          refine ⟨af, cf, ?_, by rw [hR2]; exact kp af cf f hf hfo⟩
          rw [hR2, List.getElem?_append_right (by omega)]
          simp [hlv]
        · obtain ⟨ai, ci, h1, h2⟩ := hown.row i (by omega)
          refine ⟨ai, ci, ?_, by rw [hR1 i (by omega)]; exact kp ai ci _ h2 (fun y hy => hown.out i _ y.block h1 (by rw [hy]; rfl))⟩
          rw [hR1 i (by omega), List.getElem?_append_left (by omega)]
          exact h1
      · have hgb : g ≠ b := by
          by_cases e : i < vs.length
          · rw [List.getElem?_append_left e] at hv
            exact hnl b (hown.rowLt i v b hv hb).2 (hown.out i v b hv hb)
          · rw [List.getElem?_append_right (by omega)] at hv
            have e2 : i - vs.length = 0 := by
              have := (List.getElem?_eq_some_iff.1 hv).1
              simp at this; omega
            rw [e2] at hv
            simp at hv
            subst hv
            cases haf : af with
            | none => rw [haf] at hb; simp [Value.ownBlock] at hb
            | some y =>
              rw [haf] at hb; simp [Value.ownBlock] at hb
              subst hb
              exact hnl _ (hf.lt y haf).2 (hfo y haf)
        simpa [Value.ownBlock] using hgb
      · have hi : i < vs.length := by
          have := (List.getElem?_eq_some_iff.1 hv).1
          simp at this; omega
        rw [List.getElem?_append_left hi] at hu
        by_cases e : j < vs.length
        · rw [List.getElem?_append_left e] at hv
          exact hown.dis i j u v b hij hu hv hb
        · rw [List.getElem?_append_right (by omega)] at hv
          have e2 : j - vs.length = 0 := by
            have := (List.getElem?_eq_some_iff.1 hv).1
            simp at this; omega
          rw [e2] at hv
          simp at hv
          subst hv
          cases haf : af with
          | none => simp [Value.ownBlock]
          | some y =>
            intro hc
            simp [Value.ownBlock] at hc
            exact hfr y haf i u hu (by rw [hc]; exact hb)

/-- What is read of a list of lists. -/
structure RdR (w : World) (a : Option Addr) (n : Nat) (R : Nat → List Int) (vs : List Value) : Prop where
  cells : n = 0 ∨ ∃ b off, a = some ⟨b, off, none⟩ ∧ b < w.heap.size ∧ ∀ i, i < n → w.cell? ⟨b, off + i, none⟩ = vs[i]?
  row : ∀ i, i < n → ∃ ai ci, vs[i]? = some (.slice ai (R i).length ci) ∧ Ints w ai ci (R i)
theorem OwnR.rd {w : World} {B : Nat} {a : Option Addr} {c n : Nat} {R : Nat → List Int} {vs : List Value} (h : OwnR w B a c n R vs) : RdR w a n R vs := by
  refine ⟨?_, fun i hi => by obtain ⟨ai, ci, h1, h2⟩ := h.row i hi; exact ⟨ai, ci, h1, h2.ints⟩⟩
  rcases h.own.2 with ⟨_, h2⟩ | ⟨g, cap, cur, hv, hg, hh, r⟩
  · exact .inl h2
  · right
    simp only [Value.slice.injEq, true_and] at hv
    obtain ⟨rfl, rfl⟩ := hv
    refine ⟨g, 0, rfl, (Array.getElem?_eq_some_iff.1 hh).1, fun i hi => ?_⟩
    have := h.own.cellAt i (by omega)
    rw [Nat.zero_add]
    exact this
theorem RdR.below {w w' : World} {B : Nat} {a : Option Addr} {n : Nat} {R : Nat → List Int} {vs : List Value} (h : RdR w a n R vs) (hb : Below B w w') (hB : w.heap.size ≤ B) : RdR w' a n R vs := by
  refine ⟨?_, fun i hi => by obtain ⟨ai, ci, h1, h2⟩ := h.row i hi; exact ⟨ai, ci, h1, h2.below hb hB⟩⟩
  rcases h.cells with h | ⟨b, off, ha, hlt, hc⟩
  · exact .inl h
  · exact .inr ⟨b, off, ha, by have := hb.size; omega, fun i hi => (hb.cell (p := ⟨b, off + i, none⟩) (by show b < B; omega)).trans (hc i hi)⟩

theorem Ints.drewI {w : World} {a : Option Addr} {c : Nat} {xs : List Int} (h : Ints w a c xs) : Ints w.drew a c xs := h
theorem undrewB {w w' : World} (h : Below w.drew.heap.size w.drew w') : Below w.heap.size w w' := ⟨h.os, h.tape, h.output, h.size, h.block⟩
set_option maxRecDepth 20000 in
set_option maxHeartbeats 1600000 in
theorem eqIntSS_refl (a0 a1 : Option Addr) (c0 c1 n : Nat) (R : Nat → List Int) (us vs : List Value) (w : World) (h0 : RdR w a0 n R us) (h1 : RdR w a1 n R vs) (hn : n ≤ 1000000) (hl : ∀ i, (R i).length ≤ 1000000) :
    Calls Try.prog 35 #[.slice a0 n c0, .slice a1 n c1] w fun e w' => e = .returned (.bool true) ∧ Below w.heap.size w w' := by
  have H0 := Lib.hid h0
  have H1 := Lib.hid h1
  have HL := Lib.hid hl
  clear h0 h1 hl
  go_enter Try.func35, Try.ntmps35
  go_wp2_with fail
  go_loopw [5] (fun vi wr => ∃ k : Nat, k ≤ n ∧ vi = .int .i64 (k : Int) ∧ Below w.heap.size w wr) (fun i _ => n - (intOf i).toNat)
  case atStart => exact ⟨0, by omega, rfl, Below.refl _ _⟩
  case round =>
    obtain ⟨k, hk, rfl, hbel⟩ := hrel
    by_cases hlt : k < n
    · rcases H0.out.cells with hcs | ⟨b, off, rfl, hbB, hcell⟩
      · omega
      rcases H1.out.cells with hcs | ⟨b', off', rfl, hbB', hcell'⟩
      · omega
      obtain ⟨ai, ci, e1, i1⟩ := H0.out.row k hlt
      obtain ⟨aj, cj, e2, i2⟩ := H1.out.row k hlt
      have d1 := (hbel.cell (p := ⟨b, off + k, none⟩) hbB).trans ((hcell k hlt).trans e1)
      have d2 := (hbel.cell (p := ⟨b', off' + k, none⟩) hbB').trans ((hcell' k hlt).trans e2)
      have j1 := i1.below hbel (Nat.le_refl _)
      have j2 := i2.below hbel (Nat.le_refl _)
      have hlr := HL.out k
      obtain ⟨xs, hxs⟩ : ∃ xs, xs = R k := ⟨_, rfl⟩
      rw [← hxs] at d1 d2 j1 j2 hlr
      have C1 := Lib.hid (eqIntS_refl ai aj ci cj xs wr.drew j1.drewI j2.drewI (by omega))
      have hkn : (k : Int) < n := by omega
      have zb : b < wr.heap.size := Nat.lt_of_lt_of_le hbB hbel.size
      have zb' : b' < wr.heap.size := Nat.lt_of_lt_of_le hbB' hbel.size
      clear hcell hcell' e1 e2 i1 i2 hxs
      go_wp2_with fail
      go_region_held3 (fun w' => w'.cell? ⟨b, off + k, none⟩ = some (.slice ai xs.length ci) ∧ w'.cell? ⟨b', off' + k, none⟩ = some (.slice aj xs.length cj)) (exact ⟨by assumption, by assumption⟩) (first
        | (go_at_call 21; refine C1.out.mono ?_; rintro e w2 ⟨rfl, b2⟩; have d3 := (b2.cell (p := ⟨b, off + k, none⟩) zb).trans d1; have d4 := (b2.cell (p := ⟨b', off' + k, none⟩) zb').trans d2))
      go_wp2_with fail
      go_roundw
      case rel => exact ⟨k + 1, by omega, by go_num, nx hbel (undrewB b2)⟩
      case measure => simp [intOf]; omega
    · obtain rfl : k = n := by omega
      go_wp2_with fail
      go_ret
      exact ⟨rfl, hbel⟩

/-- The lengths of the first lists, added up. -/
def sumL (R : Nat → List Int) : Nat → Nat
  | 0 => 0
  | i + 1 => sumL R i + (R i).length
theorem sumL_mono (R : Nat → List Int) {i j : Nat} (h : i ≤ j) : sumL R i ≤ sumL R j := by
  induction j with
  | zero => obtain rfl : i = 0 := by omega
            exact Nat.le_refl _
  | succ j ih =>
    by_cases e : i = j + 1
    · subst e; exact Nat.le_refl _
    · have := ih (by omega)
      simp only [sumL]; omega
/-- The lists behind the marking of the first k. -/
def mkR (R : Nat → List Int) (m : Int) (k i : Nat) : List Int := if i < k then marks (m + sumL R i) (R i).length else R i
theorem OwnR.setRow {w w' : World} {B : Nat} {a : Option Addr} {c n k : Nat} {R R' : Nat → List Int} {vs : List Value} (h : OwnR w B a c n R vs) (hk : k < n) {ak : Option Addr} {ck : Nat} (hv : vs[k]? = some (.slice ak (R k).length ck)) (ho : OwnI w' B ak ck (R' k)) (hlk : (R' k).length = (R k).length) (hg : w.grownBy w' (ak.map (·.block))) (hR : ∀ i, i ≠ k → R' i = R i) : OwnR w' B a c n R' vs := by
  have hq : ∀ b, ak.map (·.block) = some b → (Value.slice ak (R k).length ck).ownBlock = some b := fun b hb => by
    cases ak with
    | none => simp at hb
    | some x => simpa [Value.ownBlock] using hb
  refine ⟨h.own.kept hg ?_, fun i hi => ?_, h.out, h.dis⟩
  · cases hc : (Value.slice a n c).ownBlock with
    | none => exact .inl rfl
    | some b => exact .inr (fun e => h.out k _ b hv (hq b e.symm) hc)
  · by_cases e : i = k
    · subst e; exact ⟨ak, ck, by rw [hlk]; exact hv, ho⟩
    · obtain ⟨ai, ci, h1, h2⟩ := h.row i hi
      have hne : (Value.slice ai (R i).length ci).ownBlock = none ∨ (Value.slice ai (R i).length ci).ownBlock ≠ ak.map (·.block) := by
        cases hc : (Value.slice ai (R i).length ci).ownBlock with
        | none => exact .inl rfl
        | some b =>
          refine .inr (fun e2 => ?_)
          have hb := hq b e2.symm
          rcases Nat.lt_or_gt_of_ne e with h3 | h3
          · exact h.dis i k _ _ b h3 h1 hv hc hb
          · exact h.dis k i _ _ b h3 hv h1 hb hc
      refine ⟨ai, ci, by rw [hR i e]; exact h1, ?_⟩
      rw [hR i e]
      exact ⟨h2.1, h2.2.kept hg hne⟩

set_option maxRecDepth 20000 in
set_option maxHeartbeats 1600000 in
theorem markIntSS_any (B : Nat) (a0 : Option Addr) (c0 n : Nat) (R : Nat → List Int) (vs : List Value) (m : Nat) (w : World) (h0 : OwnR w B a0 c0 n R vs) (hB : B ≤ w.heap.size) (hn : n ≤ 1000000) (hs : m + sumL R n ≤ 1000000) :
    Calls Try.prog 36 #[.slice a0 n c0, .int .i64 (m : Int)] w fun e w' => e = .returned (.int .i64 ((m + sumL R n : Nat) : Int)) ∧ OwnR w' B a0 c0 n (mkR R m n) vs ∧ Below B w w' := by
  have hc := h0.rd.cells
  have HC := Lib.hid hc
  have H0 := Lib.hid (show OwnR w B a0 c0 n (mkR R m 0) vs from h0.congr (fun i hi => by simp [mkR]))
  have HS := Lib.hid (fun i (hi : i ≤ n) => (show m + sumL R i ≤ 1000000 from by have := sumL_mono R hi; omega))
  have hsn := HS.out n (Nat.le_refl _)
  clear h0 hc hs
  go_enter Try.func36, Try.ntmps36
  go_wp2_with fail
  go_loopw [1, 5] (fun vm vi wr => ∃ k s : Nat, k ≤ n ∧ vi = .int .i64 (k : Int) ∧ vm = .int .i64 (s : Int) ∧ Hid (s = m + sumL R k) ∧ s ≤ 1000000 ∧ OwnR wr B a0 c0 n (mkR R m k) vs ∧ Below B w wr) (fun _ i _ => n - (intOf i).toNat)
  case atStart => exact ⟨0, m, by omega, rfl, rfl, Lib.hid (by simp [sumL]), by omega, H0.out, Below.refl _ _⟩
  case round =>
    obtain ⟨k, s, hk, rfl, rfl, HE, hs1, ho, hbel⟩ := hrel
    by_cases hlt : k < n
    · rcases ho.rd.cells with hcs | ⟨b, off, rfl, hbB, hcell⟩
      · omega
      obtain ⟨ai, ci, e1, i1⟩ := ho.row k hlt
      have ek : mkR R m k k = R k := by simp [mkR]
      rw [ek] at e1 i1
      have d1 := (hcell k hlt).trans e1
      have hst : s + (R k).length = m + sumL R (k + 1) := by rw [HE.out]; simp only [sumL]; omega
      have hs2 := HS.out (k + 1) hlt
      have CM := Lib.hid (markIntS_any B ai ci (R k) s wr i1 (Nat.le_trans hB hbel.size) (by omega) (by omega) (by omega))
      have HNX : Hid (∀ w', OwnI w' B ai ci (marks s (R k).length) → wr.grownBy w' (ai.map (·.block)) → OwnR w' B (some ⟨b, off, none⟩) c0 n (mkR R m (k + 1)) vs) := Lib.hid (fun w' h1 h2 => by
        refine ho.setRow hlt (by rw [ek]; exact e1) ?_ ?_ h2 (fun i hi => ?_)
        · have : mkR R m (k + 1) k = marks s (R k).length := by simp [mkR, HE.out]
          rw [this]; exact h1
        · rw [ek]; simp [mkR, marks_len]
        · unfold mkR
          by_cases h3 : i < k
          · rw [if_pos h3, if_pos (by omega)]
          · rw [if_neg h3, if_neg (by omega)])
      obtain ⟨xs, hxs⟩ : ∃ xs, xs = R k := ⟨_, rfl⟩
      rw [← hxs] at d1 CM HNX hst
      have HST := Lib.hid hst
      have hxl : s + xs.length ≤ 1000000 := by omega
      have hkn : (k : Int) < n := by omega
      clear hcell e1 i1 hxs hst ek HE
      go_wp2_with fail
      refine CM.out.mono ?_; rintro e w2 ⟨rfl, o2, b2, g2⟩
      have on := HNX.out _ o2 g2
      clear CM HNX o2 g2 ho d1
      go_wp2_with fail
      go_roundw
      case rel => exact ⟨k + 1, s + xs.length, by omega, by go_num, by go_num, HST, hxl, on, hbel.trans b2⟩
      case measure => simp [intOf]; omega
    · obtain rfl : k = n := by omega
      have e := HE.out
      subst e
      clear HE
      go_wp2_with fail
      go_ret
      exact ⟨rfl, ho, hbel⟩

set_option maxRecDepth 20000 in
set_option maxHeartbeats 1600000 in
theorem heldIntSS_any (a0 : Option Addr) (c0 n : Nat) (R : Nat → List Int) (vs : List Value) (m : Nat) (w : World) (h0 : RdR w a0 n (mkR R m n) vs) (hn : n ≤ 1000000) (hs : m + sumL R n ≤ 1000000) :
    Calls Try.prog 37 #[.slice a0 n c0, .int .i64 (m : Int)] w fun e w' => e = .returned (.int .i64 ((m + sumL R n : Nat) : Int)) ∧ Below w.heap.size w w' := by
  have H0 := Lib.hid h0
  have HS := Lib.hid (fun i (hi : i ≤ n) => (show m + sumL R i ≤ 1000000 from by have := sumL_mono R hi; omega))
  have hsn := HS.out n (Nat.le_refl _)
  clear h0 hs
  go_enter Try.func37, Try.ntmps37
  go_wp2_with fail
  go_loopw [1, 5] (fun vm vi wr => ∃ k s : Nat, k ≤ n ∧ vi = .int .i64 (k : Int) ∧ vm = .int .i64 (s : Int) ∧ Hid (s = m + sumL R k) ∧ s ≤ 1000000 ∧ Below w.heap.size w wr) (fun _ i _ => n - (intOf i).toNat)
  case atStart => exact ⟨0, m, by omega, rfl, rfl, Lib.hid (by simp [sumL]), by omega, Below.refl _ _⟩
  case round =>
    obtain ⟨k, s, hk, rfl, rfl, HE, hs1, hbel⟩ := hrel
    by_cases hlt : k < n
    · rcases H0.out.cells with hcs | ⟨b, off, rfl, hbB, hcell⟩
      · omega
      obtain ⟨ai, ci, e1, i1⟩ := H0.out.row k hlt
      have ek : mkR R m n k = marks s (R k).length := by simp [mkR, hlt, HE.out]
      rw [ek, marks_len] at e1
      rw [ek] at i1
      have d1 := (hbel.cell (p := ⟨b, off + k, none⟩) hbB).trans ((hcell k hlt).trans e1)
      have j1 := i1.below hbel (Nat.le_refl _)
      have hst : s + (R k).length = m + sumL R (k + 1) := by rw [HE.out]; simp only [sumL]; omega
      have hs2 := HS.out (k + 1) hlt
      have CM := Lib.hid (heldIntS_any ai ci s (R k).length wr j1 (by omega) (by omega) (by omega))
      obtain ⟨L, hL⟩ : ∃ L, L = (R k).length := ⟨_, rfl⟩
      rw [← hL] at d1 CM hst
      have HST := Lib.hid hst
      have hxl : s + L ≤ 1000000 := by omega
      have hkn : (k : Int) < n := by omega
      clear hcell e1 i1 hL hst ek HE j1
      go_wp2_with fail
      refine CM.out.mono ?_; rintro e w2 ⟨rfl, b2⟩
      clear CM d1
      go_wp2_with fail
      go_roundw
      case rel => exact ⟨k + 1, s + L, by omega, by go_num, by go_num, HST, hxl, nx hbel b2⟩
      case measure => simp [intOf]; omega
    · obtain rfl : k = n := by omega
      have e := HE.out
      subst e
      clear HE
      go_wp2_with fail
      go_ret
      exact ⟨rfl, hbel⟩
end Go.Proofs.Ytheeglaocflgmaa
