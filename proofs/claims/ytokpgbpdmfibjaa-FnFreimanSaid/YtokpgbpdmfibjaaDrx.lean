/-
Several texts in one: The draw of two groups and two lists: l15Draw. Conditions: codes of at most 2000000 bytes. The public draws of FnFreiman. Conditions: codes of at most 2000000 bytes.
-/
import Derived.Test.YtokpgbpdmfibjaaDrw6
import Derived.Test.YtokpgbpdmfibjaaFfi
import Derived.Deep.CutRange
import Derived.Deep.RegionHeld3
import Derived.Deep.RegionLaw
namespace Go.Proofs.Ytokpgbpdmfibjaa
open Go.RowKit Go.ChangeShapes
set_option linter.unusedVariables false
set_option linter.unusedSimpArgs false

/-- The cursor, two groups in their boxes, the results' cells. -/
structure Fx (w w0 : World) (a : Option Addr) (n cap cb bg bh : Nat) (ag : Option Addr) (cg : Nat) (xs : List Int) (ah : Option Addr) (ch : Nat) (ys : List Int) (B : Nat) (W : World) : Prop where
  cw : CW w0 a n cap cb W
  xg : W.heap[bg]? = some (.cells #[.slice ag xs.length cg] 26 (0, 0))
  xh : W.heap[bh]? = some (.cells #[.slice ah ys.length ch] 26 (0, 0))
  og : OwnI W B ag cg xs
  oh : OwnI W B ah ch ys
  r1 : W.heap[w.heap.size]? = some (.cells #[.slice none 0 0] 26 (0, 0))
  r2 : W.heap[w.heap.size + 1]? = some (.cells #[.slice none 0 0] 26 (0, 0))
  bel : Below w.heap.size w W
  ne : (bg ≠ cb ∧ bh ≠ cb ∧ bg ≠ bh) ∧ cb < B ∧ w.heap.size + 1 < cb ∧ w.heap.size + 1 < bg ∧ w.heap.size + 1 < bh
theorem Fx.below {w w0 : World} {a : Option Addr} {n cap cb bg bh : Nat} {ag : Option Addr} {cg : Nat} {xs : List Int} {ah : Option Addr} {ch : Nat} {ys : List Int} {B : Nat} {W W1 : World} (h : Fx w w0 a n cap cb bg bh ag cg xs ah ch ys B W) (hb : Below W.heap.size W W1) : Fx w w0 a n cap cb bg bh ag cg xs ah ch ys B W1 :=
  ⟨h.cw.below hb, one_below h.xg hb (Nat.le_refl _), one_below h.xh hb (Nat.le_refl _), h.og.below hb (Nat.le_refl _), h.oh.below hb (Nat.le_refl _), one_below h.r1 hb (Nat.le_refl _), one_below h.r2 hb (Nat.le_refl _), nxB h.bel hb h.bel.size, h.ne⟩
theorem Fx.belowB {w w0 : World} {a : Option Addr} {n cap cb bg bh : Nat} {ag : Option Addr} {cg : Nat} {xs : List Int} {ah : Option Addr} {ch : Nat} {ys : List Int} {B B' : Nat} {W W1 : World} (h : Fx w w0 a n cap cb bg bh ag cg xs ah ch ys B W) (hb : Below B' W W1) (h1 : cb < B') (h2 : bg < B') (h3 : bh < B') (h4 : ∀ x, ag = some x → x.block < B') (h5 : ∀ x, ah = some x → x.block < B') (h6 : w0.heap.size ≤ B') : Fx w w0 a n cap cb bg bh ag cg xs ah ch ys B W1 := by
  have h7 := h.ne
  exact ⟨h.cw.belowB hb h1 h6, by rw [hb.block bg h2]; exact h.xg, by rw [hb.block bh h3]; exact h.xh, h.og.below' hb h4, h.oh.below' hb h5, by rw [hb.block w.heap.size (by omega)]; exact h.r1, by rw [hb.block (w.heap.size + 1) (by omega)]; exact h.r2, h.bel.trans (hb.mono (by omega)), h.ne⟩
theorem Fx.grown {w w0 : World} {a : Option Addr} {n cap cb bg bh : Nat} {ag : Option Addr} {cg : Nat} {xs : List Int} {ah : Option Addr} {ch : Nat} {ys : List Int} {B : Nat} {W W1 : World} (h : Fx w w0 a n cap cb bg bh ag cg xs ah ch ys B W) (hc : CW w0 a n cap cb W1) (hg : W.grownBy W1 (some cb)) : Fx w w0 a n cap cb bg bh ag cg xs ah ch ys B W1 := by
  obtain ⟨⟨d1, d2, d3⟩, d4, d5, d6, d7⟩ := h.ne
  exact ⟨hc, one_grown h.xg hg (by simpa using d1), one_grown h.xh hg (by simpa using d2), h.og.cur hg d4, h.oh.cur hg d4, one_grown h.r1 hg (by simp; omega), one_grown h.r2 hg (by simp; omega), h.bel.grown hg h.bel.size (fun k hk => by cases hk; omega), h.ne⟩
theorem Fx.drew {w w0 : World} {a : Option Addr} {n cap cb bg bh : Nat} {ag : Option Addr} {cg : Nat} {xs : List Int} {ah : Option Addr} {ch : Nat} {ys : List Int} {B : Nat} {W : World} (h : Fx w w0 a n cap cb bg bh ag cg xs ah ch ys B W) : Fx w w0 a n cap cb bg bh ag cg xs ah ch ys B W.drew :=
  ⟨h.cw.drew, h.xg, h.xh, h.og, h.oh, h.r1, h.r2, ⟨h.bel.os, h.bel.tape, h.bel.output, h.bel.size, h.bel.block⟩, h.ne⟩
/-- h = g. -/
theorem Fx.same {w w0 : World} {a : Option Addr} {n cap cb bg bh : Nat} {ag : Option Addr} {cg : Nat} {xs : List Int} {ah : Option Addr} {ch : Nat} {ys : List Int} {B : Nat} {W : World} (h : Fx w w0 a n cap cb bg bh ag cg xs ah ch ys B W) (hne : ∀ x, ag = some x → x.block ≠ bh) (hcb : w0.heap.size ≤ bh) : Fx w w0 a n cap cb bg bh ag cg xs ag cg xs B (W.setCell ⟨bh, 0, none⟩ (.slice ag xs.length cg)) := by
  have hs := grown_setAtN (w := W) bh 0 (.slice ag xs.length cg)
  obtain ⟨⟨d1, d2, d3⟩, d4, d5, d6, d7⟩ := h.ne
  have oo : OwnI (W.setCell ⟨bh, 0, none⟩ (.slice ag xs.length cg)) B ag cg xs := ⟨h.og.1, h.og.2.kept hs (by
    cases ag with
    | none => exact .inl rfl
    | some x => exact .inr (by have := hne x rfl; simp [Value.ownBlock]; first | exact this | exact fun e => this e.symm))⟩
  exact ⟨h.cw.grown hs (by simpa using fun e => d2 e.symm) (fun b hb => by cases hb; exact hcb), one_grown h.xg hs (by simpa using d3), one_setN h.xh, oo, oo, one_grown h.r1 hs (by simp; omega), one_grown h.r2 hs (by simp; omega), h.bel.setCell (p := ⟨bh, 0, none⟩) (by show w.heap.size ≤ bh; omega) _, h.ne⟩
theorem OwnI.lowF {w : World} {B : Nat} {a : Option Addr} {c : Nat} {xs : List Int} (h : OwnI w B a c xs) {p : Addr} (hp : p.block < B) (u : Value) : OwnI (w.setCell p u) B a c xs :=
  ⟨h.1, ownsRow_setCell_below h.2 hp u⟩
/-- The two results' cells are written. -/
theorem Fx.fin {w w0 : World} {a : Option Addr} {n cap cb bg bh : Nat} {ag : Option Addr} {cg : Nat} {xs : List Int} {ah : Option Addr} {ch : Nat} {ys : List Int} {B : Nat} {W : World} (h : Fx w w0 a n cap cb bg bh ag cg xs ah ch ys B W) {al : Option Addr} {cl : Nat} {l : List Int} {am : Option Addr} {cm : Nat} {m : List Int} (ol : OwnI W B al cl l) (om : OwnI W B am cm m) (U V : Value) :
    OwnI ((W.setCell ⟨w.heap.size, 0, none⟩ U).setCell ⟨w.heap.size + 1, 0, none⟩ V) w.heap.size ag cg xs ∧ OwnI ((W.setCell ⟨w.heap.size, 0, none⟩ U).setCell ⟨w.heap.size + 1, 0, none⟩ V) w.heap.size ah ch ys ∧ OwnI ((W.setCell ⟨w.heap.size, 0, none⟩ U).setCell ⟨w.heap.size + 1, 0, none⟩ V) w.heap.size al cl l ∧ OwnI ((W.setCell ⟨w.heap.size, 0, none⟩ U).setCell ⟨w.heap.size + 1, 0, none⟩ V) w.heap.size am cm m ∧ Below w.heap.size w ((W.setCell ⟨w.heap.size, 0, none⟩ U).setCell ⟨w.heap.size + 1, 0, none⟩ V) := by
  obtain ⟨⟨d1, d2, d3⟩, d4, d5, d6, d7⟩ := h.ne
  have k : ∀ {ai : Option Addr} {ci : Nat} {zs : List Int}, OwnI W B ai ci zs → OwnI ((W.setCell ⟨w.heap.size, 0, none⟩ U).setCell ⟨w.heap.size + 1, 0, none⟩ V) w.heap.size ai ci zs := fun ho =>
    ((ho.lowF (p := ⟨w.heap.size, 0, none⟩) (by show w.heap.size < B; omega) U).lowF (p := ⟨w.heap.size + 1, 0, none⟩) (by show w.heap.size + 1 < B; omega) V).mono (by omega)
  exact ⟨k h.og, k h.oh, k ol, k om, (h.bel.setCell (p := ⟨w.heap.size, 0, none⟩) (Nat.le_refl _) U).setCell (p := ⟨w.heap.size + 1, 0, none⟩) (by show w.heap.size ≤ w.heap.size + 1; omega) V⟩
theorem Fx.finB {w w0 : World} {a : Option Addr} {n cap cb bg bh : Nat} {ag : Option Addr} {cg : Nat} {xs : List Int} {ah : Option Addr} {ch : Nat} {ys : List Int} {B : Nat} {W : World} (h : Fx w w0 a n cap cb bg bh ag cg xs ah ch ys B W) {al : Option Addr} {cl : Nat} {l : List Int} {am : Option Addr} {cm : Nat} {m : List Int} (ol : OwnI W B al cl l) (om : OwnI W B am cm m) (U V : Value) :
    OwnI ((W.setCell ⟨w.heap.size + 1, 0, none⟩ V).setCell ⟨w.heap.size, 0, none⟩ U) w.heap.size ag cg xs ∧ OwnI ((W.setCell ⟨w.heap.size + 1, 0, none⟩ V).setCell ⟨w.heap.size, 0, none⟩ U) w.heap.size ah ch ys ∧ OwnI ((W.setCell ⟨w.heap.size + 1, 0, none⟩ V).setCell ⟨w.heap.size, 0, none⟩ U) w.heap.size al cl l ∧ OwnI ((W.setCell ⟨w.heap.size + 1, 0, none⟩ V).setCell ⟨w.heap.size, 0, none⟩ U) w.heap.size am cm m ∧ Below w.heap.size w ((W.setCell ⟨w.heap.size + 1, 0, none⟩ V).setCell ⟨w.heap.size, 0, none⟩ U) := by
  obtain ⟨⟨d1, d2, d3⟩, d4, d5, d6, d7⟩ := h.ne
  have k : ∀ {ai : Option Addr} {ci : Nat} {zs : List Int}, OwnI W B ai ci zs → OwnI ((W.setCell ⟨w.heap.size + 1, 0, none⟩ V).setCell ⟨w.heap.size, 0, none⟩ U) w.heap.size ai ci zs := fun ho =>
    ((ho.lowF (p := ⟨w.heap.size + 1, 0, none⟩) (by show w.heap.size + 1 < B; omega) V).lowF (p := ⟨w.heap.size, 0, none⟩) (by show w.heap.size < B; omega) U).mono (by omega)
  exact ⟨k h.og, k h.oh, k ol, k om, (h.bel.setCell (p := ⟨w.heap.size + 1, 0, none⟩) (by show w.heap.size ≤ w.heap.size + 1; omega) V).setCell (p := ⟨w.heap.size, 0, none⟩) (Nat.le_refl _) U⟩
/-- .. and the two lists. -/
structure Gx (w w0 : World) (a : Option Addr) (n cap cb bg bh : Nat) (ag : Option Addr) (cg : Nat) (xs : List Int) (ah : Option Addr) (ch : Nat) (ys : List Int) (B Bl : Nat) (al : Option Addr) (cl : Nat) (l : List Int) (am : Option Addr) (cm : Nat) (m : List Int) (W : World) : Prop where
  fx : Fx w w0 a n cap cb bg bh ag cg xs ah ch ys B W
  ol : OwnI W Bl al cl l
  om : OwnI W Bl am cm m
  dis : ∀ b, (Value.slice al l.length cl).ownBlock = some b → (Value.slice am m.length cm).ownBlock ≠ some b
  sz : Bl ≤ W.heap.size
  lo : cb < Bl ∧ bg < Bl ∧ bh < Bl ∧ (∀ x, ag = some x → x.block < Bl) ∧ (∀ x, ah = some x → x.block < Bl) ∧ w0.heap.size ≤ Bl ∧ B ≤ Bl
section
variable {w w0 : World} {a : Option Addr} {n cap cb bg bh : Nat} {ag : Option Addr} {cg : Nat} {xs : List Int} {ah : Option Addr} {ch : Nat} {ys : List Int} {B Bl : Nat} {al : Option Addr} {cl : Nat} {l : List Int} {am : Option Addr} {cm : Nat} {m : List Int} {W W1 : World}
theorem Gx.below (h : Gx w w0 a n cap cb bg bh ag cg xs ah ch ys B Bl al cl l am cm m W) (hb : Below W.heap.size W W1) : Gx w w0 a n cap cb bg bh ag cg xs ah ch ys B Bl al cl l am cm m W1 :=
  ⟨h.fx.below hb, h.ol.below hb (Nat.le_refl _), h.om.below hb (Nat.le_refl _), h.dis, Nat.le_trans h.sz hb.size, h.lo⟩
theorem Gx.grown (h : Gx w w0 a n cap cb bg bh ag cg xs ah ch ys B Bl al cl l am cm m W) (hc : CW w0 a n cap cb W1) (hg : W.grownBy W1 (some cb)) : Gx w w0 a n cap cb bg bh ag cg xs ah ch ys B Bl al cl l am cm m W1 :=
  ⟨h.fx.grown hc hg, h.ol.cur hg h.lo.1, h.om.cur hg h.lo.1, h.dis, Nat.le_trans h.sz hg.size, h.lo⟩
theorem Gx.drew (h : Gx w w0 a n cap cb bg bh ag cg xs ah ch ys B Bl al cl l am cm m W) : Gx w w0 a n cap cb bg bh ag cg xs ah ch ys B Bl al cl l am cm m W.drew :=
  ⟨h.fx.drew, h.ol, h.om, h.dis, h.sz, h.lo⟩
/-- A number is appended to the first list. -/
theorem Gx.appL (h : Gx w w0 a n cap cb bg bh ag cg xs ah ch ys B Bl al cl l am cm m W) {y : Int} {g c' : Nat} (ho : OwnI W1 Bl (some ⟨g, 0, none⟩) c' (l ++ [y])) (hb : Below Bl W W1) (hg : W.grownBy W1 (Value.slice al l.length cl).ownBlock) (hat : (Value.slice al l.length cl).ownBlock = some g ∨ W.heap.size ≤ g) : Gx w w0 a n cap cb bg bh ag cg xs ah ch ys B Bl (some ⟨g, 0, none⟩) c' (l ++ [y]) am cm m W1 := by
  obtain ⟨h1, h2, h3, h4, h5, h6, h7⟩ := h.lo
  refine ⟨h.fx.belowB hb h1 h2 h3 h4 h5 h6, ho, ⟨h.om.1, h.om.2.kept hg ?_⟩, fun b hb2 e => ?_, Nat.le_trans h.sz hg.size, h.lo⟩
  · cases hc : (Value.slice am m.length cm).ownBlock with
    | none => exact .inl rfl
    | some b => exact .inr (fun e => h.dis b (by first | exact e | exact e.symm) hc)
  · have e2 : g = b := by simpa [Value.ownBlock] using hb2
    subst e2
    rcases hat with h8 | h8
    · exact h.dis g h8 e
    · have := (h.om.2.lt g e).2
      omega
/-- .. to the second one. -/
theorem Gx.appM (h : Gx w w0 a n cap cb bg bh ag cg xs ah ch ys B Bl al cl l am cm m W) {y : Int} {g c' : Nat} (ho : OwnI W1 Bl (some ⟨g, 0, none⟩) c' (m ++ [y])) (hb : Below Bl W W1) (hg : W.grownBy W1 (Value.slice am m.length cm).ownBlock) (hat : (Value.slice am m.length cm).ownBlock = some g ∨ W.heap.size ≤ g) : Gx w w0 a n cap cb bg bh ag cg xs ah ch ys B Bl al cl l (some ⟨g, 0, none⟩) c' (m ++ [y]) W1 := by
  obtain ⟨h1, h2, h3, h4, h5, h6, h7⟩ := h.lo
  refine ⟨h.fx.belowB hb h1 h2 h3 h4 h5 h6, ⟨h.ol.1, h.ol.2.kept hg ?_⟩, ho, fun b hb2 e => ?_, Nat.le_trans h.sz hg.size, h.lo⟩
  · cases hc : (Value.slice al l.length cl).ownBlock with
    | none => exact .inl rfl
    | some b => exact .inr (fun e => h.dis b hc (by first | exact e | exact e.symm))
  · have e2 : g = b := by simpa [Value.ownBlock] using e
    subst e2
    rcases hat with h8 | h8
    · exact h.dis g hb2 h8
    · have := (h.ol.2.lt g hb2).2
      omega
/-- A number of the second list is written. -/
theorem Gx.setM {g : Nat} (h : Gx w w0 a n cap cb bg bh ag cg xs ah ch ys B Bl al cl l (some ⟨g, 0, none⟩) cm m W) (j : Nat) (y : Int) (hy : (Lit.int .i64 y).wf = true) : Gx w w0 a n cap cb bg bh ag cg xs ah ch ys B Bl al cl l (some ⟨g, 0, none⟩) cm (m.set j y) (W.setCell ⟨g, j, none⟩ (.int .i64 y)) := by
  obtain ⟨h1, h2, h3, h4, h5, h6, h7⟩ := h.lo
  have hgB := (h.om.lt _ rfl).1
  have hg := grown_setAtN (w := W) g j (.int .i64 y)
  have hb := (Below.refl Bl W).setCell (p := ⟨g, j, none⟩) hgB (.int .i64 y)
  refine ⟨h.fx.belowB hb h1 h2 h3 h4 h5 h6, ⟨h.ol.1, h.ol.2.kept hg ?_⟩, h.om.set j y hy, fun b hb2 e => ?_, by simp [World.setCell]; exact h.sz, h.lo⟩
  · cases hc : (Value.slice al l.length cl).ownBlock with
    | none => exact .inl rfl
    | some b => exact .inr (fun e => h.dis b hc (by
        have e2 : b = g := by first | simpa using e | simpa using e.symm
        subst e2
        rfl))
  · exact h.dis b hb2 (by simpa [Value.ownBlock] using e)
end
theorem below_allocF (w : World) (o : Obj) : Below w.heap.size w (w.alloc o) := (Below.refl w.heap.size w).alloc (Nat.le_refl _) o
theorem ordV_b24 (hs : List Int) : 0 ≤ ordV hs ∧ ordV hs ≤ 24 := by
  have := ordN_eq hs
  omega
/-- What l15Draw leaves. -/
def Drew15 (w : World) (e : Ending) (w' : World) : Prop :=
  ∃ (xs : List Int) (ag : Option Addr) (cg : Nat) (ys : List Int) (ah : Option Addr) (ch : Nat) (l : List Int) (al : Option Addr) (cl : Nat) (m : List Int) (am : Option Addr) (cm : Nat),
    e = .returned (.tuple #[.agg #[.slice ag xs.length cg], .agg #[.slice ah ys.length ch], .slice al l.length cl, .slice am m.length cm]) ∧ xs.length ≤ 4 ∧ ys.length ≤ 4 ∧ l.length ≤ 10 ∧ m.length ≤ 10 ∧
    OwnI w' w.heap.size ag cg xs ∧ OwnI w' w.heap.size ah ch ys ∧ OwnI w' w.heap.size al cl l ∧ OwnI w' w.heap.size am cm m ∧ Below w.heap.size w w'
theorem Drew15.out {w : World} {e : Ending} {w' : World} (h : Drew15 w e w') : ∃ (xs : List Int) (ag : Option Addr) (cg : Nat) (ys : List Int) (ah : Option Addr) (ch : Nat) (l : List Int) (al : Option Addr) (cl : Nat) (m : List Int) (am : Option Addr) (cm : Nat),
    e = .returned (.tuple #[.agg #[.slice ag xs.length cg], .agg #[.slice ah ys.length ch], .slice al l.length cl, .slice am m.length cm]) ∧ xs.length ≤ 4 ∧ ys.length ≤ 4 ∧ l.length ≤ 10 ∧ m.length ≤ 10 ∧
    OwnI w' w.heap.size ag cg xs ∧ OwnI w' w.heap.size ah ch ys ∧ OwnI w' w.heap.size al cl l ∧ OwnI w' w.heap.size am cm m ∧ Below w.heap.size w w' := h
set_option maxRecDepth 20000 in
set_option maxHeartbeats 25600000 in
theorem l15Draw_any (a : Option Addr) (cap n : Nat) (w : World) (hb : BtS w a cap n) (hn : n ≤ 2000000) :
    Calls Try.prog 119 #[.slice a n cap] w (Drew15 w) := by
  have ha0 := (Below.refl w.heap.size w).alloc (Nat.le_refl _) (.cells #[.slice none 0 0] 26)
  have ha1 := ha0.alloc (by simp) (.cells #[.slice none 0 0] 26)
  obtain ⟨W0, hW0⟩ : ∃ W, W = (w.alloc (.cells #[.slice none 0 0] 26)).alloc (.cells #[.slice none 0 0] 26) := ⟨_, rfl⟩
  have hr1 : W0.heap[w.heap.size]? = some (.cells #[.slice none 0 0] 26 (0, 0)) := by rw [hW0]; exact one_alloc (new_at rfl)
  have hr2 : W0.heap[w.heap.size + 1]? = some (.cells #[.slice none 0 0] 26 (0, 0)) := by rw [hW0]; exact new_at (by simp)
  have hs0 : W0.heap.size = w.heap.size + 2 := by rw [hW0]; simp
  rw [← hW0] at ha1
  have C1 := Lib.hid (new_any a cap n W0 (hb.below ha1 (Nat.le_refl _)) hn)
  have CB := Lib.hid (fun cb (N : Int) w hc (hN : N ≤ 2000000000) => below_any W0 a cap n cb N w hc hn hN)
  have CN := Lib.hid (fun cb (N : Int) w hc (hN : N ≤ 2000000000) => once_any W0 a cap n cb N w hc hn hN)
  have HW0 := Lib.hid hW0
  have HR1 := Lib.hid hr1
  have HR2 := Lib.hid hr2
  have HA1 := Lib.hid ha1
  clear hW0 hb ha0 ha1 hr1 hr2
  go_enter Try.func119, Try.ntmps119
  go_wp2_with fail
  rw [← HW0.out]
  refine C1.out.mono ?_; rintro e w1 ⟨cb, rfl, hc1⟩
  have hcb1 := hc1.lt
  have hcb0 := hc1.hcb
  clear C1
  go_wp2_with fail
  refine (l2Any_any W0 a cap n cb w1 hc1 hn).mono ?_; rintro e w2 ⟨xs, ag, cg, rfl, hxs, og, hc2, g2⟩
  have hxl : xs.length ≤ 4 := hxs
  have hs12 : w1.heap.size ≤ w2.heap.size := g2.size
  have HAG := Lib.hid (fun x hx => (og.lt x hx).2)
  have al2 := (Below.refl w2.heap.size w2).alloc (Nat.le_refl _) (.cells #[.slice ag xs.length cg] 26)
  have hc3 := hc2.below al2
  have og3 := og.below al2 (Nat.le_refl _)
  have xg3 := new_at (w := w2) (n := w2.heap.size) (o := .cells #[.slice ag xs.length cg] 26) rfl
  obtain ⟨W3, hW3⟩ : ∃ W, W = w2.alloc (.cells #[.slice ag xs.length cg] 26) := ⟨_, rfl⟩
  have hs3 : W3.heap.size = w2.heap.size + 1 := by rw [hW3]; simp
  rw [← hW3] at hc3 og3 xg3
  have HW3 := Lib.hid hW3
  have HS3 := Lib.hid hs3
  clear hW3 al2 og hc2 g2 hc1 hxs hs3
  go_wp2_with fail
  rw [← HW3.out]
  refine (l2Any_any W0 a cap n cb W3 hc3 hn).mono ?_; rintro e w4 ⟨ys, ah, ch, rfl, hys, oh, hc4, g4⟩
  have hyl : ys.length ≤ 4 := hys
  have hs34 : W3.heap.size ≤ w4.heap.size := g4.size
  have og4 := og3.cur g4 hcb1
  have xg4 := one_grown xg3 g4 (by simp; omega)
  have al4 := (Below.refl w4.heap.size w4).alloc (Nat.le_refl _) (.cells #[.slice ah ys.length ch] 26)
  obtain ⟨W5, hW5⟩ : ∃ W, W = w4.alloc (.cells #[.slice ah ys.length ch] 26) := ⟨_, rfl⟩
  have X5 : Fx w W0 a n cap cb w2.heap.size w4.heap.size ag cg xs ah ch ys w1.heap.size W5 := by
    have h3 := HS3.out
    rw [hW5]
    exact ⟨hc4.below al4, one_alloc xg4, new_at rfl, og4.below al4 (Nat.le_refl _), (oh.mono (by omega)).below al4 (Nat.le_refl _), one_below HR1.out (hc4.below al4).bel (Nat.le_refl _), one_below HR2.out (hc4.below al4).bel (Nat.le_refl _), HA1.out.trans ((hc4.below al4).bel.mono (by omega)), ⟨by omega, by omega, by omega⟩, by omega, by omega, by omega, by omega⟩
  have HW5 := Lib.hid hW5
  have hW5s : W5.heap.size = w4.heap.size + 1 := by rw [hW5]; simp
  have H45 := Lib.hid hW5s
  clear hW5 hW5s al4 og3 og4 xg3 xg4 oh hc4 g4 hc3 hys
  go_wp2_with fail
  rw [← HW5.out]
  refine (CN.out cb _ _ X5.cw (by omega)).mono ?_; rintro e w6 ⟨b, rfl, hc6, g6⟩
  have X6 := X5.grown hc6 g6
  have hs56 : W5.heap.size ≤ w6.heap.size := g6.size
  have HZ : Hid (w2.heap.size < w6.heap.size ∧ w4.heap.size < w6.heap.size ∧ W0.heap.size ≤ w4.heap.size ∧ w1.heap.size ≤ w4.heap.size) := Lib.hid (by have := H45.out; have := HS3.out; omega)
  clear X5 hc6 g6 hs56
  go_upto_if 23 with fail
  go_cut [] from 16 to 24 (fun wx => ∃ (ah : Option Addr) (ch : Nat) (ys : List Int), ys.length ≤ 4 ∧ Fx w W0 a n cap cb w2.heap.size w4.heap.size ag cg xs ah ch ys w1.heap.size wx ∧ w6.heap.size ≤ wx.heap.size)
  case first =>
    cases b with
    | true =>
      have q7 := cell_of_one X6.xg
      have q8 := cell_of_one X6.xh
      have f8 := free_of_one X6.xh
      have HX := Lib.hid (X6.same (fun x hx => by have := HAG.out x hx; have := HS3.out; omega) HZ.out.2.2.1)
      clear X6
      go_wp2_with fail
      go_meet
      exact ⟨ag, cg, xs, hxl, HX.out, by simp [World.setCell]⟩
    | false =>
      go_wp2_with fail
      go_meet
      exact ⟨ah, ch, ys, hyl, X6, Nat.le_refl _⟩
  case rest =>
  clear X6 hyl
  obtain ⟨ah, ch, ys, hyl, X6, hs6⟩ := hcut
  have hcbl := X6.cw.lt
  have hw0l := X6.cw.bel.size
  have HLG := Lib.hid (fun x hx => (X6.og.lt x hx).2)
  have HLH := Lib.hid (fun x hx => (X6.oh.lt x hx).2)
  have X := Gx.mk (l := []) (al := some ⟨wc.heap.size, 0, none⟩) (cl := 0) (m := []) (am := some ⟨wc.heap.size + 1, 0, none⟩) (cm := 0) (Bl := wc.heap.size) ((X6.below (below_allocF wc (.cells #[] 3))).below (below_allocF _ (.cells #[] 3))) ((OwnI.made_at rfl (Nat.le_refl _)).alloc _) (OwnI.made_at (by simp) (by omega)) (fun b hb e => by simp [Value.ownBlock] at hb e; omega) (by simp; omega) ⟨by omega, by have := HZ.out.1; omega, by have := HZ.out.2.1; omega, HLG.out, HLH.out, by omega, by have := HZ.out; omega⟩
  obtain ⟨W7, hW7⟩ : ∃ W, W = (wc.alloc (.cells #[] 3)).alloc (.cells #[] 3) := ⟨_, rfl⟩
  rw [← hW7] at X
  have HW7 := Lib.hid hW7
  obtain ⟨Bl, hBl⟩ : ∃ b, b = wc.heap.size := ⟨_, rfl⟩
  rw [← hBl] at X
  have HBL := Lib.hid hBl
  have CRG := Lib.hid (fun w h => orderOf_spec ag cg xs w h (by omega))
  have CRH := Lib.hid (fun w h => orderOf_spec ah ch ys w h (by omega))
  obtain ⟨og1, og2⟩ := ordV_b24 xs
  obtain ⟨oh1, oh2⟩ := ordV_b24 ys
  obtain ⟨og_, hog⟩ : ∃ o, o = ordV xs := ⟨_, rfl⟩
  obtain ⟨oh_, hoh⟩ : ∃ o, o = ordV ys := ⟨_, rfl⟩
  rw [← hog] at CRG og1 og2
  rw [← hoh] at CRH oh1 oh2
  have hcg : (og_ < 1) ∨ (og_ = 1) ∨ (1 < og_) := by omega
  have hch : (oh_ < 1) ∨ (oh_ = 1) ∨ (1 < oh_) := by omega
  have HCG := Lib.hid hcg
  have HCH := Lib.hid hch
  clear X6 hW7 hBl hog hoh hs6 hcbl hw0l hcg hch
  go_upto_region 8 with fail
  rw [← HW7.out, ← HBL.out]
  go_cut [11] from 16 to 31 (fun sx wx => ∃ x : Nat, sx = .int .i64 (x : Int) ∧ x ≤ 24 ∧ Gx w W0 a n cap cb w2.heap.size w4.heap.size ag cg xs ah ch ys w1.heap.size Bl (some ⟨Bl, 0, none⟩) 0 [] (some ⟨Bl + 1, 0, none⟩) 0 [] wx)
  case first =>
    have q := cell_of_one X.fx.xg
    go_wp2_with fail
    refine (CRG.out _ X.fx.og.ints).mono ?_; rintro e wA ⟨rfl, bA⟩
    have XA := X.below bA
    have C1 := Lib.hid (CB.out cb 1 wA XA.fx.cw (by omega))
    have C2 := Lib.hid (CB.out cb og_ wA XA.fx.cw (by omega))
    have HXA := Lib.hid XA
    clear q bA XA X
    rcases HCG.out with hm | rfl | hm
    · go_wp2_with fail
      refine C1.out.mono ?_; rintro e wB ⟨v, rfl, hv, hcB, gB⟩
      have XB := HXA.out.grown hcB gB
      go_wp2_with fail
      go_meet
      exact ⟨v, rfl, by omega, XB⟩
    · go_wp2_with fail
      refine C1.out.mono ?_; rintro e wB ⟨v, rfl, hv, hcB, gB⟩
      have XB := HXA.out.grown hcB gB
      go_wp2_with fail
      go_meet
      exact ⟨v, rfl, by omega, XB⟩
    · go_wp2_with fail
      refine C2.out.mono ?_; rintro e wB ⟨v, rfl, hv, hcB, gB⟩
      have XB := HXA.out.grown hcB gB
      go_wp2_with fail
      go_meet
      exact ⟨v, rfl, by omega, XB⟩
  case rest =>
  obtain ⟨x0, rfl, hx0, X⟩ := hcut
  go_upto_region 9 with fail
  go_cut [12] from 16 to 36 (fun sx wx => ∃ x : Nat, sx = .int .i64 (x : Int) ∧ x ≤ 24 ∧ Gx w W0 a n cap cb w2.heap.size w4.heap.size ag cg xs ah ch ys w1.heap.size Bl (some ⟨Bl, 0, none⟩) 0 [] (some ⟨Bl + 1, 0, none⟩) 0 [] wx)
  case first =>
    have q := cell_of_one X.fx.xg
    go_wp2_with fail
    refine (CRG.out _ X.fx.og.ints).mono ?_; rintro e wA ⟨rfl, bA⟩
    have XA := X.below bA
    have C1 := Lib.hid (CB.out cb 1 wA XA.fx.cw (by omega))
    have C2 := Lib.hid (CB.out cb og_ wA XA.fx.cw (by omega))
    have HXA := Lib.hid XA
    clear q bA XA X
    rcases HCG.out with hm | rfl | hm
    · go_wp2_with fail
      refine C1.out.mono ?_; rintro e wB ⟨v, rfl, hv, hcB, gB⟩
      have XB := HXA.out.grown hcB gB
      go_wp2_with fail
      go_meet
      exact ⟨v, rfl, by omega, XB⟩
    · go_wp2_with fail
      refine C1.out.mono ?_; rintro e wB ⟨v, rfl, hv, hcB, gB⟩
      have XB := HXA.out.grown hcB gB
      go_wp2_with fail
      go_meet
      exact ⟨v, rfl, by omega, XB⟩
    · go_wp2_with fail
      refine C2.out.mono ?_; rintro e wB ⟨v, rfl, hv, hcB, gB⟩
      have XB := HXA.out.grown hcB gB
      go_wp2_with fail
      go_meet
      exact ⟨v, rfl, by omega, XB⟩
  case rest =>
  obtain ⟨d0, rfl, hd0, X⟩ := hcut
  go_upto_region 10 with fail
  go_cut [13] from 16 to 41 (fun sx wx => ∃ x : Nat, sx = .int .i64 (x : Int) ∧ x ≤ 24 ∧ Gx w W0 a n cap cb w2.heap.size w4.heap.size ag cg xs ah ch ys w1.heap.size Bl (some ⟨Bl, 0, none⟩) 0 [] (some ⟨Bl + 1, 0, none⟩) 0 [] wx)
  case first =>
    have q := cell_of_one X.fx.xh
    go_wp2_with fail
    refine (CRH.out _ X.fx.oh.ints).mono ?_; rintro e wA ⟨rfl, bA⟩
    have XA := X.below bA
    have C1 := Lib.hid (CB.out cb 1 wA XA.fx.cw (by omega))
    have C2 := Lib.hid (CB.out cb oh_ wA XA.fx.cw (by omega))
    have HXA := Lib.hid XA
    clear q bA XA X
    rcases HCH.out with hm | rfl | hm
    · go_wp2_with fail
      refine C1.out.mono ?_; rintro e wB ⟨v, rfl, hv, hcB, gB⟩
      have XB := HXA.out.grown hcB gB
      go_wp2_with fail
      go_meet
      exact ⟨v, rfl, by omega, XB⟩
    · go_wp2_with fail
      refine C1.out.mono ?_; rintro e wB ⟨v, rfl, hv, hcB, gB⟩
      have XB := HXA.out.grown hcB gB
      go_wp2_with fail
      go_meet
      exact ⟨v, rfl, by omega, XB⟩
    · go_wp2_with fail
      refine C2.out.mono ?_; rintro e wB ⟨v, rfl, hv, hcB, gB⟩
      have XB := HXA.out.grown hcB gB
      go_wp2_with fail
      go_meet
      exact ⟨v, rfl, by omega, XB⟩
  case rest =>
  obtain ⟨y0, rfl, hy0, X⟩ := hcut
  go_upto_region 11 with fail
  go_cut [14] from 16 to 46 (fun sx wx => ∃ x : Nat, sx = .int .i64 (x : Int) ∧ x ≤ 24 ∧ Gx w W0 a n cap cb w2.heap.size w4.heap.size ag cg xs ah ch ys w1.heap.size Bl (some ⟨Bl, 0, none⟩) 0 [] (some ⟨Bl + 1, 0, none⟩) 0 [] wx)
  case first =>
    have q := cell_of_one X.fx.xh
    go_wp2_with fail
    refine (CRH.out _ X.fx.oh.ints).mono ?_; rintro e wA ⟨rfl, bA⟩
    have XA := X.below bA
    have C1 := Lib.hid (CB.out cb 1 wA XA.fx.cw (by omega))
    have C2 := Lib.hid (CB.out cb oh_ wA XA.fx.cw (by omega))
    have HXA := Lib.hid XA
    clear q bA XA X
    rcases HCH.out with hm | rfl | hm
    · go_wp2_with fail
      refine C1.out.mono ?_; rintro e wB ⟨v, rfl, hv, hcB, gB⟩
      have XB := HXA.out.grown hcB gB
      go_wp2_with fail
      go_meet
      exact ⟨v, rfl, by omega, XB⟩
    · go_wp2_with fail
      refine C1.out.mono ?_; rintro e wB ⟨v, rfl, hv, hcB, gB⟩
      have XB := HXA.out.grown hcB gB
      go_wp2_with fail
      go_meet
      exact ⟨v, rfl, by omega, XB⟩
    · go_wp2_with fail
      refine C2.out.mono ?_; rintro e wB ⟨v, rfl, hv, hcB, gB⟩
      have XB := HXA.out.grown hcB gB
      go_wp2_with fail
      go_meet
      exact ⟨v, rfl, by omega, XB⟩
  case rest =>
  obtain ⟨e0, rfl, he0, X⟩ := hcut
  have IGG := Lib.hid (fun w h => isGroup_spec ag cg xs w h (by omega))
  have IGH := Lib.hid (fun w h => isGroup_spec ah ch ys w h (by omega))
  have ADG := Lib.hid (fun x y w h (hg : grpB xs = true) hx hy => l2Add_any ag cg xs x y w h hg hx hy)
  have ADH := Lib.hid (fun x y w h (hg : grpB ys = true) hx hy => l2Add_any ah ch ys x y w h hg hx hy)
  go_wp2_with fail
  refine (CB.out cb 4 _ X.fx.cw (by omega)).mono ?_; rintro e wn ⟨v, rfl, hv, hcv, gv⟩
  have X := X.grown hcv gv
  have hv4 : v < 4 := by omega
  have hvw : IntKind.i64.wrap (1 + (v : Int)) = ((1 + v : Nat) : Int) := by rw [IntKind.wrap_i64]; omega
  clear hcv gv hv
  go_wp2_with fail
  go_loopw [9, 10, 11, 13, 15] (fun vl vm vx vy vn wr => ∃ (k x y : Nat) (l m : List Int) (al am : Option Addr) (cl cm : Nat), k ≤ 4 ∧ vn = .int .i64 (k : Int) ∧ vx = .int .i64 (x : Int) ∧ vy = .int .i64 (y : Int) ∧ x ≤ 1000 ∧ y ≤ 1000 ∧ vl = .slice al l.length cl ∧ vm = .slice am m.length cm ∧ l.length + k ≤ 4 ∧ m.length + k ≤ 4 ∧ Gx w W0 a n cap cb w2.heap.size w4.heap.size ag cg xs ah ch ys w1.heap.size Bl al cl l am cm m wr) (fun _ _ _ _ vn _ => (intOf vn).toNat)
  case atStart => exact ⟨1 + v, x0, y0, [], [], _, _, _, _, by omega, by first | rfl | trivial | (congr 1; omega), by first | rfl | trivial, by first | rfl | trivial, by omega, by omega, by first | rfl | trivial, by first | rfl | trivial, by simp; omega, by simp; omega, X⟩
  case round =>
    clear X hvw
    obtain ⟨k, x, y, l, m, al, am, cl, cm, hk4, rfl, rfl, rfl, hx, hy, rfl, rfl, hlk, hmk, X⟩ := hrel
    obtain ⟨gb, hgb⟩ : ∃ v, v = grpB xs := ⟨_, rfl⟩
    obtain ⟨hb, hhb⟩ : ∃ v, v = grpB ys := ⟨_, rfl⟩
    have HGB := Lib.hid hgb
    have HHB := Lib.hid hhb
    rw [← hgb] at IGG
    rw [← hhb] at IGH
    clear hgb hhb
    go_upto_region 13 with fail
    go_cut [59] from 50 to 59 (fun s59 wx => ∃ b : Bool, s59 = .bool b ∧ Hid (b = true → 0 < k ∧ gb = true ∧ hb = true) ∧ Gx w W0 a n cap cb w2.heap.size w4.heap.size ag cg xs ah ch ys w1.heap.size Bl al cl l am cm m wx)
    case first =>
      by_cases hk0 : 0 < k
      · have hki : (0 : Int) < k := by omega
        have q := cell_of_one X.fx.xg
        go_wp2_with fail
        refine (IGG.out _ X.fx.og.ints).mono ?_; rintro e wA ⟨rfl, bA⟩
        have XA := X.below bA
        clear q bA X
        cases gb with
        | false =>
          go_wp2_with fail
          go_meet
          exact ⟨false, rfl, Lib.hid (fun h => by cases h), XA⟩
        | true =>
          have q := cell_of_one XA.fx.xh
          go_wp2_with fail
          refine (IGH.out _ XA.fx.oh.ints).mono ?_; rintro e wB ⟨rfl, bB⟩
          have XB := XA.below bB
          go_wp2_with fail
          go_meet
          exact ⟨hb, rfl, Lib.hid (fun h => ⟨hk0, by first | rfl | trivial, h⟩), XB⟩
      · have hki : ¬ (0 : Int) < k := by omega
        go_wp2_with fail
        go_meet
        exact ⟨false, rfl, Lib.hid (fun h => by cases h), X⟩
    case rest =>
    obtain ⟨b, rfl, HBK, X⟩ := hcut
    cases b with
    | true =>
      obtain ⟨hk0, hg1, hh1⟩ := HBK.out rfl
      have hg := HGB.out.symm.trans hg1
      have hh := HHB.out.symm.trans hh1
      have hxw : (Lit.int .i64 (x : Int)).wf = true := wf_of (by omega) (by omega)
      have hyw : (Lit.int .i64 (y : Int)).wf = true := wf_of (by omega) (by omega)
      have hll : l.length ≤ 2000000 := by omega
      have hml : m.length ≤ 2000000 := by omega
      have AG := Lib.hid (fun w h => ADG.out x d0 w h hg (by omega) (by omega))
      have AH := Lib.hid (fun w h => ADH.out y e0 w h hh (by omega) (by omega))
      have b1 := gadd_lt24 hg x d0
      have b2 := gadd_lt24 hh y e0
      obtain ⟨x2, hx2⟩ : ∃ v, v = gadd xs x d0 := ⟨_, rfl⟩
      obtain ⟨y2, hy2⟩ : ∃ v, v = gadd ys y e0 := ⟨_, rfl⟩
      rw [← hx2] at AG b1
      rw [← hy2] at AH b2
      have ol := X.ol
      have sz := X.sz
      have hkk : (k : Int) - 1 = ((k - 1 : Nat) : Int) := by omega
      clear hg hh hg1 hh1 hx2 hy2 HBK
      go_wp2_with (at_builtin; refine wpList_appG rfl _ _ rfl Bl al cl l (x : Int) rfl rfl ol hxw hll sz ?_)
      intro g1 c1 w5 o5 hgr hg2 hat
      have X5 := X.appL o5 (hgr _ (Below.refl Bl _)) hg2 hat
      have om := X5.om
      have sz5 := X5.sz
      clear o5 hgr hg2 hat X ol sz
      go_wp2_with (at_builtin; refine wpList_appG rfl _ _ rfl Bl am cm m (y : Int) rfl rfl om hyw hml sz5 ?_)
      intro g2 c2 w7 o7 hgr hg2 hat
      have X7 := X5.appM o7 (hgr _ (Below.refl Bl _)) hg2 hat
      have q7 := cell_of_one X7.fx.xg
      clear o7 hgr hg2 hat X5 om sz5
      go_wp2_with fail
      refine (AG.out _ X7.fx.og.ints).mono ?_; rintro e w8 ⟨rfl, b8⟩
      have X8 := X7.below b8
      have q8 := cell_of_one X8.fx.xh
      clear q7 b8 X7
      go_wp2_with fail
      refine (AH.out _ X8.fx.oh.ints).mono ?_; rintro e w9 ⟨rfl, b9⟩
      have X9 := X8.below b9
      clear q8 b9 X8
      go_wp2_with fail
      go_roundw
      case rel => exact ⟨k - 1, x2, y2, l ++ [(x : Int)], m ++ [(y : Int)], _, _, _, _, by omega, by first | rfl | rw [hkk], rfl, rfl, by omega, by omega, by simp, by simp, by simp; omega, by simp; omega, X9⟩
      case measure => simp [intOf]; omega
    | false =>
      clear HBK IGG IGH ADG ADH
      go_upto_region 19 with fail
      go_cut [84] from 16 to 84 (fun s84 wx => ∃ b : Bool, s84 = .bool b ∧ Hid (b = true → 0 < m.length) ∧ Gx w W0 a n cap cb w2.heap.size w4.heap.size ag cg xs ah ch ys w1.heap.size Bl al cl l am cm m wx)
      case first =>
        by_cases hm0 : 0 < m.length
        · have hmi : (0 : Int) < m.length := by omega
          go_wp2_with fail
          refine (CN.out cb 4 _ X.fx.cw (by omega)).mono ?_; rintro e wA ⟨b, rfl, hcA, gA⟩
          have XA := X.grown hcA gA
          go_wp2_with fail
          go_meet
          exact ⟨b, rfl, Lib.hid (fun _ => hm0), XA⟩
        · have hmi : ¬ (0 : Int) < m.length := by omega
          go_wp2_with fail
          go_meet
          exact ⟨false, rfl, Lib.hid (fun h => by cases h), X⟩
      case rest =>
      obtain ⟨b, rfl, HBM, X⟩ := hcut
      go_upto_if 84 with fail
      go_cut [] from 16 to 93 (fun wx => ∃ m2 : List Int, Hid (m2.length = m.length) ∧ Gx w W0 a n cap cb w2.heap.size w4.heap.size ag cg xs ah ch ys w1.heap.size Bl al cl l am cm m2 wx)
      case first =>
        cases b with
        | true =>
          have hm0 := HBM.out rfl
          obtain ⟨gm, rfl⟩ := addrG X.om hm0
          clear HBM
          go_wp2_with fail
          refine wp_region_held_drew (S := (fun w' => w'.cell? ⟨w4.heap.size, 0, none⟩ = some (.slice ah ys.length ch))) (by as_aux_lemma => kernel_rfl) (cell_of_one X.fx.xh) (fun hHeld => ?_)
          refine wpAnyH_take (i := 0) (v := ?_) rfl (by as_aux_lemma => kernel_rfl) (by as_aux_lemma => kernel_rfl) (by as_aux_lemma => kernel_rfl) (fun _ _ _ h => h) (Or.inl ⟨by first | kernel_rfl | rfl, ?_⟩) (by assumption) ?_
          rotate_left
          · intro w hSw
            (try dsimp only at hSw)
            (try go_split_ands)
            go_simp
            try with_reducible rfl
          (try simp only [Act.put, List.setIfInBounds_toArray, List.set_cons_zero, List.set_cons_succ])
          refine wpAnyH_take (i := 1) (v := ?_) rfl (by as_aux_lemma => kernel_rfl) (by as_aux_lemma => kernel_rfl) (by as_aux_lemma => kernel_rfl) (fun _ _ _ h => h) (Or.inl ⟨by first | kernel_rfl | rfl, ?_⟩) (by assumption) ?_
          rotate_left
          · intro w hSw
            (try dsimp only at hSw)
            (try go_split_ands)
            go_simp
            try with_reducible rfl
          (try simp only [Act.put, List.setIfInBounds_toArray, List.set_cons_zero, List.set_cons_succ])
          refine wpAnyH_take (i := 2) (v := ?_) rfl (by as_aux_lemma => kernel_rfl) (by as_aux_lemma => kernel_rfl) (by as_aux_lemma => kernel_rfl) (fun _ _ _ h => h) (Or.inl ⟨by first | kernel_rfl | rfl, ?_⟩) (by assumption) ?_
          rotate_left
          · intro w hSw
            (try dsimp only at hSw)
            (try go_split_ands)
            go_simp
            try with_reducible rfl
          (try simp only [Act.put, List.setIfInBounds_toArray, List.set_cons_zero, List.set_cons_succ])
          refine wpAnyH_take (i := 3) (v := ?_) rfl (by as_aux_lemma => kernel_rfl) (by as_aux_lemma => kernel_rfl) (by as_aux_lemma => kernel_rfl) (fun _ _ _ h => h) (Or.inl ⟨by first | kernel_rfl | rfl, ?_⟩) (by assumption) ?_
          rotate_left
          · intro w hSw
            (try dsimp only at hSw)
            (try go_split_ands)
            go_simp
            try with_reducible rfl
          (try simp only [Act.put, List.setIfInBounds_toArray, List.set_cons_zero, List.set_cons_succ])
          refine wpAnyH_take (i := 5) (v := ?_) rfl (by as_aux_lemma => kernel_rfl) (by as_aux_lemma => kernel_rfl) (by as_aux_lemma => kernel_rfl) (fun _ _ _ h => h) (Or.inl ⟨by first | kernel_rfl | rfl, ?_⟩) (by assumption) ?_
          rotate_left
          · intro w hSw
            (try dsimp only at hSw)
            (try go_split_ands)
            go_simp
            try with_reducible rfl
          (try simp only [Act.put, List.setIfInBounds_toArray, List.set_cons_zero, List.set_cons_succ])
          refine wpAnyH_take (i := 6) (v := ?_) rfl (by as_aux_lemma => kernel_rfl) (by as_aux_lemma => kernel_rfl) (by as_aux_lemma => kernel_rfl) (fun _ _ _ h => h) (Or.inl ⟨by first | kernel_rfl | rfl, ?_⟩) (by assumption) ?_
          rotate_left
          · intro w hSw
            (try dsimp only at hSw)
            (try go_split_ands)
            go_simp
            try with_reducible rfl
          (try simp only [Act.put, List.setIfInBounds_toArray, List.set_cons_zero, List.set_cons_succ])
          refine wpAnyH_ready (rs := [4]) (by as_aux_lemma => kernel_rfl) (by simp) ?_
          refine AllReadyH.cons rfl (fun K hK => ?_) AllReadyH.nil
          go_simp
          go_at_call 99
          have X1 := X.drew
          refine (CB.out cb (m.length : Int) _ X1.fx.cw (by omega)).mono ?_; rintro e wv ⟨v, rfl, hv, hcv, gv⟩
          have X2 := X1.grown hcv gv
          have hvl : v < m.length := by omega
          have hvi : (v : Int) < m.length := by omega
          clear hcv gv
          refine hK.out _ _ (cell_of_one X2.fx.xh) (fun hHeld => ?_)
          clear hK K
          (try simp only [Act.put, List.setIfInBounds_toArray, List.set_cons_zero, List.set_cons_succ])
          refine wpAnyH_ready (rs := [7]) (by as_aux_lemma => kernel_rfl) (by simp) ?_
          refine AllReadyH.cons rfl (fun K hK => ?_) AllReadyH.nil
          go_simp
          go_at_call 98
          refine (l2Element_any W0 a cap n cb ah ch ys _ X2.fx.cw hn X2.fx.oh.ints (fun y hy => by have h1 := (X2.fx.oh.lt y hy).1; have h2 := X2.fx.ne.2.1; omega) (by omega)).mono ?_; rintro e wz ⟨z, rfl, hz, hcz, gz⟩
          have XP := X2.grown hcz gz
          clear hcz gz
          refine hK.out _ _ (cell_of_one XP.fx.xh) (fun hHeld => ?_)
          clear hK K
          (try simp only [Act.put, List.setIfInBounds_toArray, List.set_cons_zero, List.set_cons_succ])
          refine wpAnyH_take (i := 8) (v := ?_) rfl (by as_aux_lemma => kernel_rfl) (by as_aux_lemma => kernel_rfl) (by as_aux_lemma => kernel_rfl) (fun _ _ _ h => h) (Or.inl ⟨by first | kernel_rfl | rfl, ?_⟩) (by assumption) ?_
          rotate_left
          · intro w hSw
            (try dsimp only at hSw)
            (try go_split_ands)
            go_simp
            try with_reducible rfl
          (try simp only [Act.put, List.setIfInBounds_toArray, List.set_cons_zero, List.set_cons_succ])
          refine wpAnyH_ready (rs := [9]) (by as_aux_lemma => kernel_rfl) (by simp) ?_
          refine AllReadyH.cons rfl (fun K hK => ?_) AllReadyH.nil
          have dz := XP.om.cell v hvl
          have fz := XP.om.frozen v
          have XS := XP.setM v z hz
          go_simp
          refine hK.out _ _ (cell_of_one XS.fx.xh) (fun hHeld => ?_)
          clear hK K dz fz
          (try simp only [Act.put, List.setIfInBounds_toArray, List.set_cons_zero, List.set_cons_succ])
          refine wpAnyH_done (by as_aux_lemma => kernel_rfl) ?_ _
          (try simp only [List.getElem_toArray, List.getElem_cons_succ, List.getElem_cons_zero, Act.put, List.setIfInBounds_toArray, List.set_cons_zero, List.set_cons_succ])
          go_wp2_with fail
          go_meet
          exact ⟨m.set v z, Lib.hid (by simp), XS⟩
        | false =>
          go_wp2_with fail
          go_meet
          exact ⟨m, Lib.hid rfl, X⟩
      case rest =>
      clear HBM X
      obtain ⟨m2, HM2, X⟩ := hcut
      have q7 := cell_of_one X.fx.xg
      have q8 := cell_of_one X.fx.xh
      have r1 := cell_of_one X.fx.r1
      have f1 := free_of_one X.fx.r1
      have r2 := cell_of_one X.fx.r2
      have f2 := free_of_one X.fx.r2
      have HX := Lib.hid X
      have hz0 := HZ.out
      obtain ⟨-, -, -, hn1, hn2⟩ := X.fx.ne
      have d1 : ¬ w.heap.size = w2.heap.size := by omega
      have d2 : ¬ w2.heap.size = w.heap.size := by omega
      have d3 : ¬ w.heap.size = w4.heap.size := by omega
      have d4 : ¬ w4.heap.size = w.heap.size := by omega
      have d5 : ¬ w.heap.size + 1 = w2.heap.size := by omega
      have d6 : ¬ w2.heap.size = w.heap.size + 1 := by omega
      have d7 : ¬ w.heap.size + 1 = w4.heap.size := by omega
      have d8 : ¬ w4.heap.size = w.heap.size + 1 := by omega
      have hl10 : l.length ≤ 10 := by omega
      have hm10 : m2.length ≤ 10 := by have := HM2.out; omega
      clear X
      have HF1 := Lib.hid (HX.out.fx.fin (HX.out.ol.mono HX.out.lo.2.2.2.2.2.2) (HX.out.om.mono HX.out.lo.2.2.2.2.2.2) (.slice ag xs.length cg) (.slice ah ys.length ch))
      have HF2 := Lib.hid (HX.out.fx.finB (HX.out.ol.mono HX.out.lo.2.2.2.2.2.2) (HX.out.om.mono HX.out.lo.2.2.2.2.2.2) (.slice ag xs.length cg) (.slice ah ys.length ch))
      go_wp2_with fail
      go_region
      all_goals
        go_wp2_with fail
        first
          | exact bodyPost_ret (v := .tuple #[.agg #[.slice ag xs.length cg], .agg #[.slice ah ys.length ch], .slice al l.length cl, .slice am m.length cm]) (by simp [results, Try.results119, go_sem, r1, r2, d1, d2, d3, d4, d5, d6, d7, d8]) rfl ⟨xs, ag, cg, ys, ah, ch, l, al, cl, m2, am, cm, by rw [HM2.out], hxl, hyl, hl10, hm10, HF1.out.1, HF1.out.2.1, HF1.out.2.2.1, HF1.out.2.2.2.1, below_drewC HF1.out.2.2.2.2⟩
          | exact bodyPost_ret (v := .tuple #[.agg #[.slice ag xs.length cg], .agg #[.slice ah ys.length ch], .slice al l.length cl, .slice am m.length cm]) (by simp [results, Try.results119, go_sem, r1, r2, d1, d2, d3, d4, d5, d6, d7, d8]) rfl ⟨xs, ag, cg, ys, ah, ch, l, al, cl, m2, am, cm, by rw [HM2.out], hxl, hyl, hl10, hm10, HF2.out.1, HF2.out.2.1, HF2.out.2.2.1, HF2.out.2.2.2.1, below_drewC HF2.out.2.2.2.2⟩
end Go.Proofs.Ytokpgbpdmfibjaa

namespace Go.Proofs.Ytokpgbpdmfibjaa
open Go.RowKit Go.ChangeShapes
set_option linter.unusedVariables false
set_option linter.unusedSimpArgs false

theorem fin2 {w W : World} {B : Nat} (hB : w.heap.size + 1 < B) (bel : Below w.heap.size w W) (U V : Value) : (∀ {ai : Option Addr} {ci : Nat} {zs : List Int}, OwnI W B ai ci zs → OwnI ((W.setCell ⟨w.heap.size, 0, none⟩ U).setCell ⟨w.heap.size + 1, 0, none⟩ V) w.heap.size ai ci zs) ∧ Below w.heap.size w ((W.setCell ⟨w.heap.size, 0, none⟩ U).setCell ⟨w.heap.size + 1, 0, none⟩ V) :=
  ⟨fun ho => ((ho.lowF (p := ⟨w.heap.size, 0, none⟩) (by show w.heap.size < B; omega) U).lowF (p := ⟨w.heap.size + 1, 0, none⟩) (by show w.heap.size + 1 < B; omega) V).mono (by omega), (bel.setCell (p := ⟨w.heap.size, 0, none⟩) (Nat.le_refl _) U).setCell (p := ⟨w.heap.size + 1, 0, none⟩) (by show w.heap.size ≤ w.heap.size + 1; omega) V⟩
theorem fin2B {w W : World} {B : Nat} (hB : w.heap.size + 1 < B) (bel : Below w.heap.size w W) (U V : Value) : (∀ {ai : Option Addr} {ci : Nat} {zs : List Int}, OwnI W B ai ci zs → OwnI ((W.setCell ⟨w.heap.size + 1, 0, none⟩ V).setCell ⟨w.heap.size, 0, none⟩ U) w.heap.size ai ci zs) ∧ Below w.heap.size w ((W.setCell ⟨w.heap.size + 1, 0, none⟩ V).setCell ⟨w.heap.size, 0, none⟩ U) :=
  ⟨fun ho => ((ho.lowF (p := ⟨w.heap.size + 1, 0, none⟩) (by show w.heap.size + 1 < B; omega) V).lowF (p := ⟨w.heap.size, 0, none⟩) (by show w.heap.size < B; omega) U).mono (by omega), (bel.setCell (p := ⟨w.heap.size + 1, 0, none⟩) (by show w.heap.size ≤ w.heap.size + 1; omega) V).setCell (p := ⟨w.heap.size, 0, none⟩) (Nat.le_refl _) U⟩
theorem fin1 {w W : World} {B : Nat} (hB : w.heap.size < B) (bel : Below w.heap.size w W) (U : Value) : (∀ {ai : Option Addr} {ci : Nat} {zs : List Int}, OwnI W B ai ci zs → OwnI (W.setCell ⟨w.heap.size, 0, none⟩ U) w.heap.size ai ci zs) ∧ Below w.heap.size w (W.setCell ⟨w.heap.size, 0, none⟩ U) :=
  ⟨fun ho => (ho.lowF (p := ⟨w.heap.size, 0, none⟩) hB U).mono (by omega), bel.setCell (p := ⟨w.heap.size, 0, none⟩) (Nat.le_refl _) U⟩
/-- A group and a list. -/
def Drew15GL (w : World) (e : Ending) (w' : World) : Prop :=
  ∃ (xs : List Int) (ag : Option Addr) (cg : Nat) (l : List Int) (al : Option Addr) (cl : Nat), e = .returned (.tuple #[.agg #[.slice ag xs.length cg], .slice al l.length cl]) ∧ xs.length ≤ 4 ∧ l.length ≤ 10 ∧ OwnI w' w.heap.size ag cg xs ∧ OwnI w' w.heap.size al cl l ∧ Below w.heap.size w w'
/-- Two groups and two numbers. -/
def Drew15GGII (w : World) (e : Ending) (w' : World) : Prop :=
  ∃ (xs : List Int) (ag : Option Addr) (cg : Nat) (ys : List Int) (ah : Option Addr) (ch : Nat) (x y : Int), e = .returned (.tuple #[.agg #[.slice ag xs.length cg], .agg #[.slice ah ys.length ch], .int .i64 x, .int .i64 y]) ∧ xs.length ≤ 4 ∧ ys.length ≤ 4 ∧ OwnI w' w.heap.size ag cg xs ∧ OwnI w' w.heap.size ah ch ys ∧ Below w.heap.size w w'
/-- Two groups and a number. -/
def Drew15GGI (w : World) (e : Ending) (w' : World) : Prop :=
  ∃ (xs : List Int) (ag : Option Addr) (cg : Nat) (ys : List Int) (ah : Option Addr) (ch : Nat) (x : Int), e = .returned (.tuple #[.agg #[.slice ag xs.length cg], .agg #[.slice ah ys.length ch], .int .i64 x]) ∧ xs.length ≤ 4 ∧ ys.length ≤ 4 ∧ OwnI w' w.heap.size ag cg xs ∧ OwnI w' w.heap.size ah ch ys ∧ Below w.heap.size w w'
set_option maxRecDepth 20000 in
set_option maxHeartbeats 6400000 in
theorem dFIso_any (a : Option Addr) (cap n : Nat) (w : World) (hb : BtS w a cap n) (hn : n ≤ 2000000) :
    Calls Try.prog 50 #[.slice a n cap] w (Drew15 w) := by
  have ha0 := (Below.refl w.heap.size w).alloc (Nat.le_refl _) (.cells #[.slice none 0 0] 26)
  have ha1 := ha0.alloc (by simp) (.cells #[.slice none 0 0] 26)
  obtain ⟨W0, hW0⟩ : ∃ W, W = (w.alloc (.cells #[.slice none 0 0] 26)).alloc (.cells #[.slice none 0 0] 26) := ⟨_, rfl⟩
  have hr1 : W0.heap[w.heap.size]? = some (.cells #[.slice none 0 0] 26 (0, 0)) := by rw [hW0]; exact one_alloc (new_at rfl)
  have hr2 : W0.heap[w.heap.size + 1]? = some (.cells #[.slice none 0 0] 26 (0, 0)) := by rw [hW0]; exact new_at (by simp)
  have hs0 : W0.heap.size = w.heap.size + 2 := by rw [hW0]; simp
  rw [← hW0] at ha1
  have C1 := Lib.hid (l15Draw_any a cap n W0 (hb.below ha1 (Nat.le_refl _)) hn)
  have HW0 := Lib.hid hW0
  clear hW0 hb
  go_enter Try.func50, Try.ntmps50
  go_wp2_with fail
  rw [← HW0.out]
  refine C1.out.mono ?_; intro e w1 hd
  obtain ⟨xs, ag, cg, ys, ah, ch, l, al, cl, m, am, cm, rfl, hxl, hyl, hll, hml, og, oh, ol, om, b1⟩ := hd.out
  have hs1 := b1.size
  have al1 := (below_allocF w1 (.cells #[.slice ag xs.length cg] 26))
  have al2 := (below_allocF (w1.alloc (.cells #[.slice ag xs.length cg] 26)) (.cells #[.slice ah ys.length ch] 26))
  have og := (og.alloc (.cells #[.slice ag xs.length cg] 26)).alloc (.cells #[.slice ah ys.length ch] 26)
  have oh := (oh.alloc (.cells #[.slice ag xs.length cg] 26)).alloc (.cells #[.slice ah ys.length ch] 26)
  have ol := (ol.alloc (.cells #[.slice ag xs.length cg] 26)).alloc (.cells #[.slice ah ys.length ch] 26)
  have om := (om.alloc (.cells #[.slice ag xs.length cg] 26)).alloc (.cells #[.slice ah ys.length ch] 26)
  have x6 : ((w1.alloc (.cells #[.slice ag xs.length cg] 26)).alloc (.cells #[.slice ah ys.length ch] 26)).heap[w1.heap.size]? = some (.cells #[.slice ag xs.length cg] 26 (0, 0)) := one_alloc (new_at rfl)
  have x7 : ((w1.alloc (.cells #[.slice ag xs.length cg] 26)).alloc (.cells #[.slice ah ys.length ch] 26)).heap[w1.heap.size + 1]? = some (.cells #[.slice ah ys.length ch] 26 (0, 0)) := new_at (by simp)
  have r1 := one_alloc (o' := .cells #[.slice ah ys.length ch] 26) (one_alloc (o' := .cells #[.slice ag xs.length cg] 26) (one_below hr1 b1 (Nat.le_refl _)))
  have r2 := one_alloc (o' := .cells #[.slice ah ys.length ch] 26) (one_alloc (o' := .cells #[.slice ag xs.length cg] 26) (one_below hr2 b1 (Nat.le_refl _)))
  have bel := nxB (nxB (ha1.trans (b1.mono (by omega))) al1 (by omega)) al2 (by simp; omega)
  obtain ⟨W3, hW3⟩ : ∃ W, W = (w1.alloc (.cells #[.slice ag xs.length cg] 26)).alloc (.cells #[.slice ah ys.length ch] 26) := ⟨_, rfl⟩
  have hs3 : W3.heap.size = w1.heap.size + 2 := by rw [hW3]; simp
  rw [← hW3] at og oh ol om x6 x7 r1 r2 bel
  have HW3 := Lib.hid hW3
  have HS3 := Lib.hid hs3
  have d1 : ¬ w.heap.size = w1.heap.size := by omega
  have d2 : ¬ w1.heap.size = w.heap.size := by omega
  have d3 : ¬ w.heap.size = w1.heap.size + 1 := by omega
  have d4 : ¬ w1.heap.size + 1 = w.heap.size := by omega
  have d5 : ¬ w.heap.size + 1 = w1.heap.size := by omega
  have d6 : ¬ w1.heap.size = w.heap.size + 1 := by omega
  have hB : w.heap.size + 1 < W0.heap.size := by omega
  clear hW3 hs3 al1 al2 b1 hd C1 hr1 hr2 ha0 ha1 hs1
  have q6 := cell_of_one x6
  have q7 := cell_of_one x7
  have r1c := cell_of_one r1
  have f1 := free_of_one r1
  have r2c := cell_of_one r2
  have f2 := free_of_one r2
  have HF1 := Lib.hid (fin2 hB bel (.slice ag xs.length cg) (.slice ah ys.length ch))
  have HF2 := Lib.hid (fin2B hB bel (.slice ag xs.length cg) (.slice ah ys.length ch))
  have HO := Lib.hid (And.intro og (And.intro oh (And.intro ol om)))
  clear og oh ol om bel x6 x7 r1 r2
  go_wp2_with fail
  rw [← HW3.out]
  go_region
  all_goals
    go_wp2_with fail
    first
      | exact bodyPost_ret (v := .tuple #[.agg #[.slice ag xs.length cg], .agg #[.slice ah ys.length ch], .slice al l.length cl, .slice am m.length cm]) (by simp [results, Try.results50, go_sem, r1c, r2c, d1, d2, d3, d4, d5, d6]) rfl ⟨xs, ag, cg, ys, ah, ch, l, al, cl, m, am, cm, rfl, hxl, hyl, hll, hml, HF1.out.1 HO.out.1, HF1.out.1 HO.out.2.1, HF1.out.1 HO.out.2.2.1, HF1.out.1 HO.out.2.2.2, below_drewC HF1.out.2⟩
      | exact bodyPost_ret (v := .tuple #[.agg #[.slice ag xs.length cg], .agg #[.slice ah ys.length ch], .slice al l.length cl, .slice am m.length cm]) (by simp [results, Try.results50, go_sem, r1c, r2c, d1, d2, d3, d4, d5, d6]) rfl ⟨xs, ag, cg, ys, ah, ch, l, al, cl, m, am, cm, rfl, hxl, hyl, hll, hml, HF2.out.1 HO.out.1, HF2.out.1 HO.out.2.1, HF2.out.1 HO.out.2.2.1, HF2.out.1 HO.out.2.2.2, below_drewC HF2.out.2⟩
set_option maxRecDepth 20000 in
set_option maxHeartbeats 6400000 in
theorem dFMap_any (a : Option Addr) (cap n : Nat) (w : World) (hb : BtS w a cap n) (hn : n ≤ 2000000) :
    Calls Try.prog 70 #[.slice a n cap] w (Drew15 w) := by
  have ha0 := (Below.refl w.heap.size w).alloc (Nat.le_refl _) (.cells #[.slice none 0 0] 26)
  have ha1 := ha0.alloc (by simp) (.cells #[.slice none 0 0] 26)
  obtain ⟨W0, hW0⟩ : ∃ W, W = (w.alloc (.cells #[.slice none 0 0] 26)).alloc (.cells #[.slice none 0 0] 26) := ⟨_, rfl⟩
  have hr1 : W0.heap[w.heap.size]? = some (.cells #[.slice none 0 0] 26 (0, 0)) := by rw [hW0]; exact one_alloc (new_at rfl)
  have hr2 : W0.heap[w.heap.size + 1]? = some (.cells #[.slice none 0 0] 26 (0, 0)) := by rw [hW0]; exact new_at (by simp)
  have hs0 : W0.heap.size = w.heap.size + 2 := by rw [hW0]; simp
  rw [← hW0] at ha1
  have C1 := Lib.hid (l15Draw_any a cap n W0 (hb.below ha1 (Nat.le_refl _)) hn)
  have HW0 := Lib.hid hW0
  clear hW0 hb
  go_enter Try.func70, Try.ntmps70
  go_wp2_with fail
  rw [← HW0.out]
  refine C1.out.mono ?_; intro e w1 hd
  obtain ⟨xs, ag, cg, ys, ah, ch, l, al, cl, m, am, cm, rfl, hxl, hyl, hll, hml, og, oh, ol, om, b1⟩ := hd.out
  have hs1 := b1.size
  have al1 := (below_allocF w1 (.cells #[.slice ag xs.length cg] 26))
  have al2 := (below_allocF (w1.alloc (.cells #[.slice ag xs.length cg] 26)) (.cells #[.slice ah ys.length ch] 26))
  have og := (og.alloc (.cells #[.slice ag xs.length cg] 26)).alloc (.cells #[.slice ah ys.length ch] 26)
  have oh := (oh.alloc (.cells #[.slice ag xs.length cg] 26)).alloc (.cells #[.slice ah ys.length ch] 26)
  have ol := (ol.alloc (.cells #[.slice ag xs.length cg] 26)).alloc (.cells #[.slice ah ys.length ch] 26)
  have om := (om.alloc (.cells #[.slice ag xs.length cg] 26)).alloc (.cells #[.slice ah ys.length ch] 26)
  have x6 : ((w1.alloc (.cells #[.slice ag xs.length cg] 26)).alloc (.cells #[.slice ah ys.length ch] 26)).heap[w1.heap.size]? = some (.cells #[.slice ag xs.length cg] 26 (0, 0)) := one_alloc (new_at rfl)
  have x7 : ((w1.alloc (.cells #[.slice ag xs.length cg] 26)).alloc (.cells #[.slice ah ys.length ch] 26)).heap[w1.heap.size + 1]? = some (.cells #[.slice ah ys.length ch] 26 (0, 0)) := new_at (by simp)
  have r1 := one_alloc (o' := .cells #[.slice ah ys.length ch] 26) (one_alloc (o' := .cells #[.slice ag xs.length cg] 26) (one_below hr1 b1 (Nat.le_refl _)))
  have r2 := one_alloc (o' := .cells #[.slice ah ys.length ch] 26) (one_alloc (o' := .cells #[.slice ag xs.length cg] 26) (one_below hr2 b1 (Nat.le_refl _)))
  have bel := nxB (nxB (ha1.trans (b1.mono (by omega))) al1 (by omega)) al2 (by simp; omega)
  obtain ⟨W3, hW3⟩ : ∃ W, W = (w1.alloc (.cells #[.slice ag xs.length cg] 26)).alloc (.cells #[.slice ah ys.length ch] 26) := ⟨_, rfl⟩
  have hs3 : W3.heap.size = w1.heap.size + 2 := by rw [hW3]; simp
  rw [← hW3] at og oh ol om x6 x7 r1 r2 bel
  have HW3 := Lib.hid hW3
  have HS3 := Lib.hid hs3
  have d1 : ¬ w.heap.size = w1.heap.size := by omega
  have d2 : ¬ w1.heap.size = w.heap.size := by omega
  have d3 : ¬ w.heap.size = w1.heap.size + 1 := by omega
  have d4 : ¬ w1.heap.size + 1 = w.heap.size := by omega
  have d5 : ¬ w.heap.size + 1 = w1.heap.size := by omega
  have d6 : ¬ w1.heap.size = w.heap.size + 1 := by omega
  have hB : w.heap.size + 1 < W0.heap.size := by omega
  clear hW3 hs3 al1 al2 b1 hd C1 hr1 hr2 ha0 ha1 hs1
  have q6 := cell_of_one x6
  have q7 := cell_of_one x7
  have r1c := cell_of_one r1
  have f1 := free_of_one r1
  have r2c := cell_of_one r2
  have f2 := free_of_one r2
  have HF1 := Lib.hid (fin2 hB bel (.slice ag xs.length cg) (.slice ah ys.length ch))
  have HF2 := Lib.hid (fin2B hB bel (.slice ag xs.length cg) (.slice ah ys.length ch))
  have HO := Lib.hid (And.intro og (And.intro oh (And.intro ol om)))
  clear og oh ol om bel x6 x7 r1 r2
  go_wp2_with fail
  rw [← HW3.out]
  go_region
  all_goals
    go_wp2_with fail
    first
      | exact bodyPost_ret (v := .tuple #[.agg #[.slice ag xs.length cg], .agg #[.slice ah ys.length ch], .slice al l.length cl, .slice am m.length cm]) (by simp [results, Try.results70, go_sem, r1c, r2c, d1, d2, d3, d4, d5, d6]) rfl ⟨xs, ag, cg, ys, ah, ch, l, al, cl, m, am, cm, rfl, hxl, hyl, hll, hml, HF1.out.1 HO.out.1, HF1.out.1 HO.out.2.1, HF1.out.1 HO.out.2.2.1, HF1.out.1 HO.out.2.2.2, below_drewC HF1.out.2⟩
      | exact bodyPost_ret (v := .tuple #[.agg #[.slice ag xs.length cg], .agg #[.slice ah ys.length ch], .slice al l.length cl, .slice am m.length cm]) (by simp [results, Try.results70, go_sem, r1c, r2c, d1, d2, d3, d4, d5, d6]) rfl ⟨xs, ag, cg, ys, ah, ch, l, al, cl, m, am, cm, rfl, hxl, hyl, hll, hml, HF2.out.1 HO.out.1, HF2.out.1 HO.out.2.1, HF2.out.1 HO.out.2.2.1, HF2.out.1 HO.out.2.2.2, below_drewC HF2.out.2⟩
set_option maxRecDepth 20000 in
set_option maxHeartbeats 6400000 in
theorem dFRank_any (a : Option Addr) (cap n : Nat) (w : World) (hb : BtS w a cap n) (hn : n ≤ 2000000) :
    Calls Try.prog 66 #[.slice a n cap] w (Drew15GL w) := by
  have ha1 := (Below.refl w.heap.size w).alloc (Nat.le_refl _) (.cells #[.slice none 0 0] 26)
  obtain ⟨W0, hW0⟩ : ∃ W, W = w.alloc (.cells #[.slice none 0 0] 26) := ⟨_, rfl⟩
  have hr1 : W0.heap[w.heap.size]? = some (.cells #[.slice none 0 0] 26 (0, 0)) := by rw [hW0]; exact new_at rfl
  have hs0 : W0.heap.size = w.heap.size + 1 := by rw [hW0]; simp
  rw [← hW0] at ha1
  have C1 := Lib.hid (l15Draw_any a cap n W0 (hb.below ha1 (Nat.le_refl _)) hn)
  have HW0 := Lib.hid hW0
  clear hW0 hb
  go_enter Try.func66, Try.ntmps66
  go_wp2_with fail
  rw [← HW0.out]
  refine C1.out.mono ?_; intro e w1 hd
  obtain ⟨xs, ag, cg, ys, ah, ch, l, al, cl, m, am, cm, rfl, hxl, hyl, hll, hml, og, oh, ol, om, b1⟩ := hd.out
  have hs1 := b1.size
  have al1 := (below_allocF w1 (.cells #[.slice ag xs.length cg] 26))
  have al2 := (below_allocF (w1.alloc (.cells #[.slice ag xs.length cg] 26)) (.cells #[.slice ah ys.length ch] 26))
  have og := (og.alloc (.cells #[.slice ag xs.length cg] 26)).alloc (.cells #[.slice ah ys.length ch] 26)
  have oh := (oh.alloc (.cells #[.slice ag xs.length cg] 26)).alloc (.cells #[.slice ah ys.length ch] 26)
  have ol := (ol.alloc (.cells #[.slice ag xs.length cg] 26)).alloc (.cells #[.slice ah ys.length ch] 26)
  have om := (om.alloc (.cells #[.slice ag xs.length cg] 26)).alloc (.cells #[.slice ah ys.length ch] 26)
  have x6 : ((w1.alloc (.cells #[.slice ag xs.length cg] 26)).alloc (.cells #[.slice ah ys.length ch] 26)).heap[w1.heap.size]? = some (.cells #[.slice ag xs.length cg] 26 (0, 0)) := one_alloc (new_at rfl)
  have x7 : ((w1.alloc (.cells #[.slice ag xs.length cg] 26)).alloc (.cells #[.slice ah ys.length ch] 26)).heap[w1.heap.size + 1]? = some (.cells #[.slice ah ys.length ch] 26 (0, 0)) := new_at (by simp)
  have r1 := one_alloc (o' := .cells #[.slice ah ys.length ch] 26) (one_alloc (o' := .cells #[.slice ag xs.length cg] 26) (one_below hr1 b1 (Nat.le_refl _)))
  have bel := nxB (nxB (ha1.trans (b1.mono (by omega))) al1 (by omega)) al2 (by simp; omega)
  have d1 : ¬ w.heap.size = w1.heap.size := by omega
  have d2 : ¬ w1.heap.size = w.heap.size := by omega
  have d3 : ¬ w.heap.size = w1.heap.size + 1 := by omega
  have d4 : ¬ w1.heap.size + 1 = w.heap.size := by omega
  have hB : w.heap.size + 0 < W0.heap.size := by omega
  clear al1 al2 b1 hd C1 hr1 ha1 hs1
  have q6 := cell_of_one x6
  have q7 := cell_of_one x7
  have r1c := cell_of_one r1
  have f1 := free_of_one r1
  have HF1 := Lib.hid (fin1 hB bel (.slice ag xs.length cg))
  have HO := Lib.hid (And.intro og ol)
  clear og oh ol om bel x6 x7 r1
  go_wp2_with fail
  exact bodyPost_ret (v := .tuple #[.agg #[.slice ag xs.length cg], .slice al l.length cl]) (by simp [results, Try.results66, go_sem, r1c, d1, d2, d3, d4]) rfl ⟨xs, ag, cg, l, al, cl, rfl, hxl, hll, HF1.out.1 HO.out.1, HF1.out.1 HO.out.2, HF1.out.2⟩
set_option maxRecDepth 20000 in
set_option maxHeartbeats 6400000 in
theorem dFImage_any (a : Option Addr) (cap n : Nat) (w : World) (hb : BtS w a cap n) (hn : n ≤ 2000000) :
    Calls Try.prog 68 #[.slice a n cap] w (Drew15GL w) := by
  have ha1 := (Below.refl w.heap.size w).alloc (Nat.le_refl _) (.cells #[.slice none 0 0] 26)
  obtain ⟨W0, hW0⟩ : ∃ W, W = w.alloc (.cells #[.slice none 0 0] 26) := ⟨_, rfl⟩
  have hr1 : W0.heap[w.heap.size]? = some (.cells #[.slice none 0 0] 26 (0, 0)) := by rw [hW0]; exact new_at rfl
  have hs0 : W0.heap.size = w.heap.size + 1 := by rw [hW0]; simp
  rw [← hW0] at ha1
  have C1 := Lib.hid (l15Draw_any a cap n W0 (hb.below ha1 (Nat.le_refl _)) hn)
  have HW0 := Lib.hid hW0
  clear hW0 hb
  go_enter Try.func68, Try.ntmps68
  go_wp2_with fail
  rw [← HW0.out]
  refine C1.out.mono ?_; intro e w1 hd
  obtain ⟨xs, ag, cg, ys, ah, ch, l, al, cl, m, am, cm, rfl, hxl, hyl, hll, hml, og, oh, ol, om, b1⟩ := hd.out
  have hs1 := b1.size
  have al1 := (below_allocF w1 (.cells #[.slice ag xs.length cg] 26))
  have al2 := (below_allocF (w1.alloc (.cells #[.slice ag xs.length cg] 26)) (.cells #[.slice ah ys.length ch] 26))
  have og := (og.alloc (.cells #[.slice ag xs.length cg] 26)).alloc (.cells #[.slice ah ys.length ch] 26)
  have oh := (oh.alloc (.cells #[.slice ag xs.length cg] 26)).alloc (.cells #[.slice ah ys.length ch] 26)
  have ol := (ol.alloc (.cells #[.slice ag xs.length cg] 26)).alloc (.cells #[.slice ah ys.length ch] 26)
  have om := (om.alloc (.cells #[.slice ag xs.length cg] 26)).alloc (.cells #[.slice ah ys.length ch] 26)
  have x6 : ((w1.alloc (.cells #[.slice ag xs.length cg] 26)).alloc (.cells #[.slice ah ys.length ch] 26)).heap[w1.heap.size]? = some (.cells #[.slice ag xs.length cg] 26 (0, 0)) := one_alloc (new_at rfl)
  have x7 : ((w1.alloc (.cells #[.slice ag xs.length cg] 26)).alloc (.cells #[.slice ah ys.length ch] 26)).heap[w1.heap.size + 1]? = some (.cells #[.slice ah ys.length ch] 26 (0, 0)) := new_at (by simp)
  have r1 := one_alloc (o' := .cells #[.slice ah ys.length ch] 26) (one_alloc (o' := .cells #[.slice ag xs.length cg] 26) (one_below hr1 b1 (Nat.le_refl _)))
  have bel := nxB (nxB (ha1.trans (b1.mono (by omega))) al1 (by omega)) al2 (by simp; omega)
  have d1 : ¬ w.heap.size = w1.heap.size := by omega
  have d2 : ¬ w1.heap.size = w.heap.size := by omega
  have d3 : ¬ w.heap.size = w1.heap.size + 1 := by omega
  have d4 : ¬ w1.heap.size + 1 = w.heap.size := by omega
  have hB : w.heap.size + 0 < W0.heap.size := by omega
  clear al1 al2 b1 hd C1 hr1 ha1 hs1
  have q6 := cell_of_one x6
  have q7 := cell_of_one x7
  have r1c := cell_of_one r1
  have f1 := free_of_one r1
  have HF1 := Lib.hid (fin1 hB bel (.slice ah ys.length ch))
  have HO := Lib.hid (And.intro oh om)
  clear og oh ol om bel x6 x7 r1
  go_wp2_with fail
  exact bodyPost_ret (v := .tuple #[.agg #[.slice ah ys.length ch], .slice am m.length cm]) (by simp [results, Try.results68, go_sem, r1c, d1, d2, d3, d4]) rfl ⟨ys, ah, ch, m, am, cm, rfl, hyl, hml, HF1.out.1 HO.out.1, HF1.out.1 HO.out.2, HF1.out.2⟩
set_option maxRecDepth 20000 in
set_option maxHeartbeats 6400000 in
theorem dFFind_any (a : Option Addr) (cap n : Nat) (w : World) (hb : BtS w a cap n) (hn : n ≤ 2000000) :
    Calls Try.prog 58 #[.slice a n cap] w (Drew15GGII w) := by
  have ha0 := (Below.refl w.heap.size w).alloc (Nat.le_refl _) (.cells #[.slice none 0 0] 26)
  have ha1 := ha0.alloc (by simp) (.cells #[.slice none 0 0] 26)
  obtain ⟨W0, hW0⟩ : ∃ W, W = (w.alloc (.cells #[.slice none 0 0] 26)).alloc (.cells #[.slice none 0 0] 26) := ⟨_, rfl⟩
  have hr1 : W0.heap[w.heap.size]? = some (.cells #[.slice none 0 0] 26 (0, 0)) := by rw [hW0]; exact one_alloc (new_at rfl)
  have hr2 : W0.heap[w.heap.size + 1]? = some (.cells #[.slice none 0 0] 26 (0, 0)) := by rw [hW0]; exact new_at (by simp)
  have hs0 : W0.heap.size = w.heap.size + 2 := by rw [hW0]; simp
  rw [← hW0] at ha1
  have C1 := Lib.hid (l15Draw_any a cap n W0 (hb.below ha1 (Nat.le_refl _)) hn)
  have HW0 := Lib.hid hW0
  clear hW0 hb
  go_enter Try.func58, Try.ntmps58
  go_wp2_with fail
  rw [← HW0.out]
  refine C1.out.mono ?_; intro e w1 hd
  obtain ⟨xs, ag, cg, ys, ah, ch, l, al, cl, m, am, cm, rfl, hxl, hyl, hll, hml, og, oh, ol, om, b1⟩ := hd.out
  have hs1 := b1.size
  have al1 := (below_allocF w1 (.cells #[.slice ag xs.length cg] 26))
  have al2 := (below_allocF (w1.alloc (.cells #[.slice ag xs.length cg] 26)) (.cells #[.slice ah ys.length ch] 26))
  have og := (og.alloc (.cells #[.slice ag xs.length cg] 26)).alloc (.cells #[.slice ah ys.length ch] 26)
  have oh := (oh.alloc (.cells #[.slice ag xs.length cg] 26)).alloc (.cells #[.slice ah ys.length ch] 26)
  have ol := (ol.alloc (.cells #[.slice ag xs.length cg] 26)).alloc (.cells #[.slice ah ys.length ch] 26)
  have om := (om.alloc (.cells #[.slice ag xs.length cg] 26)).alloc (.cells #[.slice ah ys.length ch] 26)
  have x6 : ((w1.alloc (.cells #[.slice ag xs.length cg] 26)).alloc (.cells #[.slice ah ys.length ch] 26)).heap[w1.heap.size]? = some (.cells #[.slice ag xs.length cg] 26 (0, 0)) := one_alloc (new_at rfl)
  have x7 : ((w1.alloc (.cells #[.slice ag xs.length cg] 26)).alloc (.cells #[.slice ah ys.length ch] 26)).heap[w1.heap.size + 1]? = some (.cells #[.slice ah ys.length ch] 26 (0, 0)) := new_at (by simp)
  have r1 := one_alloc (o' := .cells #[.slice ah ys.length ch] 26) (one_alloc (o' := .cells #[.slice ag xs.length cg] 26) (one_below hr1 b1 (Nat.le_refl _)))
  have r2 := one_alloc (o' := .cells #[.slice ah ys.length ch] 26) (one_alloc (o' := .cells #[.slice ag xs.length cg] 26) (one_below hr2 b1 (Nat.le_refl _)))
  have bel := nxB (nxB (ha1.trans (b1.mono (by omega))) al1 (by omega)) al2 (by simp; omega)
  obtain ⟨W3, hW3⟩ : ∃ W, W = (w1.alloc (.cells #[.slice ag xs.length cg] 26)).alloc (.cells #[.slice ah ys.length ch] 26) := ⟨_, rfl⟩
  have hs3 : W3.heap.size = w1.heap.size + 2 := by rw [hW3]; simp
  rw [← hW3] at og oh ol om x6 x7 r1 r2 bel
  have HW3 := Lib.hid hW3
  have HS3 := Lib.hid hs3
  have d1 : ¬ w.heap.size = w1.heap.size := by omega
  have d2 : ¬ w1.heap.size = w.heap.size := by omega
  have d3 : ¬ w.heap.size = w1.heap.size + 1 := by omega
  have d4 : ¬ w1.heap.size + 1 = w.heap.size := by omega
  have d5 : ¬ w.heap.size + 1 = w1.heap.size := by omega
  have d6 : ¬ w1.heap.size = w.heap.size + 1 := by omega
  have hB : w.heap.size + 1 < W0.heap.size := by omega
  clear hW3 hs3 al1 al2 b1 hd C1 hr1 hr2 ha0 ha1 hs1
  have S1 := Lib.hid (fun w h k => setOf_spec ag cg xs al cl l w h k (by omega) (by omega))
  have S2 := Lib.hid (fun w h k => setOf_spec ah ch ys am cm m w h k (by omega) (by omega))
  obtain ⟨v1, hv1⟩ : ∃ v, v = soV xs l := ⟨_, rfl⟩
  obtain ⟨v2, hv2⟩ : ∃ v, v = soV ys m := ⟨_, rfl⟩
  obtain ⟨b1, hb1⟩ : ∃ v, v = soB xs l := ⟨_, rfl⟩
  obtain ⟨b2, hb2⟩ : ∃ v, v = soB ys m := ⟨_, rfl⟩
  rw [← hv1, ← hb1] at S1
  rw [← hv2, ← hb2] at S2
  clear hv1 hv2 hb1 hb2
  have q6 := cell_of_one x6
  go_wp2_with fail
  rw [← HW3.out]
  refine (S1.out _ og.ints ol.ints).mono ?_; rintro e w4 ⟨rfl, c4⟩
  have og := og.below c4 (Nat.le_refl _)
  have oh := oh.below c4 (Nat.le_refl _)
  have om := om.below c4 (Nat.le_refl _)
  have x6 := one_below x6 c4 (Nat.le_refl _)
  have x7 := one_below x7 c4 (Nat.le_refl _)
  have r1 := one_below r1 c4 (Nat.le_refl _)
  have r2 := one_below r2 c4 (Nat.le_refl _)
  have bel := nxB bel c4 bel.size
  have q7 := cell_of_one x7
  clear c4 q6 ol
  go_wp2_with fail
  refine (S2.out _ oh.ints om.ints).mono ?_; rintro e w5 ⟨rfl, c5⟩
  have og := og.below c5 (Nat.le_refl _)
  have oh := oh.below c5 (Nat.le_refl _)
  have x6 := one_below x6 c5 (Nat.le_refl _)
  have x7 := one_below x7 c5 (Nat.le_refl _)
  have r1 := one_below r1 c5 (Nat.le_refl _)
  have r2 := one_below r2 c5 (Nat.le_refl _)
  have bel := nxB bel c5 bel.size
  clear c5 q7 om
  have q6 := cell_of_one x6
  have q7 := cell_of_one x7
  have r1c := cell_of_one r1
  have f1 := free_of_one r1
  have r2c := cell_of_one r2
  have f2 := free_of_one r2
  have HF1 := Lib.hid (fin2 hB bel (.slice ag xs.length cg) (.slice ah ys.length ch))
  have HF2 := Lib.hid (fin2B hB bel (.slice ag xs.length cg) (.slice ah ys.length ch))
  have HO := Lib.hid (And.intro og oh)
  clear og oh bel x6 x7 r1 r2
  cases b1 with
  | true =>
    cases b2 with
    | true =>
      go_wp2_with fail
      go_region
      all_goals
        go_wp2_with fail
        first
          | exact bodyPost_ret (v := .tuple #[.agg #[.slice ag xs.length cg], .agg #[.slice ah ys.length ch], .int .i64 (v1 : Int), .int .i64 (v2 : Int)]) (by simp [results, Try.results58, go_sem, r1c, r2c, d1, d2, d3, d4, d5, d6]) rfl ⟨xs, ag, cg, ys, ah, ch, _, _, rfl, hxl, hyl, HF1.out.1 HO.out.1, HF1.out.1 HO.out.2, below_drewC HF1.out.2⟩
          | exact bodyPost_ret (v := .tuple #[.agg #[.slice ag xs.length cg], .agg #[.slice ah ys.length ch], .int .i64 (v1 : Int), .int .i64 (v2 : Int)]) (by simp [results, Try.results58, go_sem, r1c, r2c, d1, d2, d3, d4, d5, d6]) rfl ⟨xs, ag, cg, ys, ah, ch, _, _, rfl, hxl, hyl, HF2.out.1 HO.out.1, HF2.out.1 HO.out.2, below_drewC HF2.out.2⟩
    | false =>
      go_wp2_with fail
      go_region
      all_goals
        go_wp2_with fail
        first
          | exact bodyPost_ret (v := .tuple #[.agg #[.slice ag xs.length cg], .agg #[.slice ah ys.length ch], .int .i64 (v1 : Int), .int .i64 3]) (by simp [results, Try.results58, go_sem, r1c, r2c, d1, d2, d3, d4, d5, d6]) rfl ⟨xs, ag, cg, ys, ah, ch, _, _, rfl, hxl, hyl, HF1.out.1 HO.out.1, HF1.out.1 HO.out.2, below_drewC HF1.out.2⟩
          | exact bodyPost_ret (v := .tuple #[.agg #[.slice ag xs.length cg], .agg #[.slice ah ys.length ch], .int .i64 (v1 : Int), .int .i64 3]) (by simp [results, Try.results58, go_sem, r1c, r2c, d1, d2, d3, d4, d5, d6]) rfl ⟨xs, ag, cg, ys, ah, ch, _, _, rfl, hxl, hyl, HF2.out.1 HO.out.1, HF2.out.1 HO.out.2, below_drewC HF2.out.2⟩
  | false =>
    go_wp2_with fail
    go_region
    all_goals
      go_wp2_with fail
      first
        | exact bodyPost_ret (v := .tuple #[.agg #[.slice ag xs.length cg], .agg #[.slice ah ys.length ch], .int .i64 (v1 : Int), .int .i64 3]) (by simp [results, Try.results58, go_sem, r1c, r2c, d1, d2, d3, d4, d5, d6]) rfl ⟨xs, ag, cg, ys, ah, ch, _, _, rfl, hxl, hyl, HF1.out.1 HO.out.1, HF1.out.1 HO.out.2, below_drewC HF1.out.2⟩
        | exact bodyPost_ret (v := .tuple #[.agg #[.slice ag xs.length cg], .agg #[.slice ah ys.length ch], .int .i64 (v1 : Int), .int .i64 3]) (by simp [results, Try.results58, go_sem, r1c, r2c, d1, d2, d3, d4, d5, d6]) rfl ⟨xs, ag, cg, ys, ah, ch, _, _, rfl, hxl, hyl, HF2.out.1 HO.out.1, HF2.out.1 HO.out.2, below_drewC HF2.out.2⟩
set_option maxRecDepth 20000 in
set_option maxHeartbeats 6400000 in
theorem dFCount_any (a : Option Addr) (cap n : Nat) (w : World) (hb : BtS w a cap n) (hn : n ≤ 2000000) :
    Calls Try.prog 63 #[.slice a n cap] w (Drew15GGI w) := by
  have ha0 := (Below.refl w.heap.size w).alloc (Nat.le_refl _) (.cells #[.slice none 0 0] 26)
  have ha1 := ha0.alloc (by simp) (.cells #[.slice none 0 0] 26)
  obtain ⟨W0, hW0⟩ : ∃ W, W = (w.alloc (.cells #[.slice none 0 0] 26)).alloc (.cells #[.slice none 0 0] 26) := ⟨_, rfl⟩
  have hr1 : W0.heap[w.heap.size]? = some (.cells #[.slice none 0 0] 26 (0, 0)) := by rw [hW0]; exact one_alloc (new_at rfl)
  have hr2 : W0.heap[w.heap.size + 1]? = some (.cells #[.slice none 0 0] 26 (0, 0)) := by rw [hW0]; exact new_at (by simp)
  have hs0 : W0.heap.size = w.heap.size + 2 := by rw [hW0]; simp
  rw [← hW0] at ha1
  have C1 := Lib.hid (new_any a cap n W0 (hb.below ha1 (Nat.le_refl _)) hn)
  have HW0 := Lib.hid hW0
  have HR1 := Lib.hid hr1
  have HR2 := Lib.hid hr2
  have HA1 := Lib.hid ha1
  clear hW0 hb ha0 ha1 hr1 hr2
  go_enter Try.func63, Try.ntmps63
  go_wp2_with fail
  rw [← HW0.out]
  refine C1.out.mono ?_; rintro e w1 ⟨cb, rfl, hc1⟩
  have hcb1 := hc1.lt
  have hcb0 := hc1.hcb
  clear C1
  go_wp2_with fail
  refine (l2Any_any W0 a cap n cb w1 hc1 hn).mono ?_; rintro e w2 ⟨xs, ag, cg, rfl, hxs, og, hc2, g2⟩
  have hxl : xs.length ≤ 4 := hxs
  have hs12 : w1.heap.size ≤ w2.heap.size := g2.size
  have al2 := (Below.refl w2.heap.size w2).alloc (Nat.le_refl _) (.cells #[.slice ag xs.length cg] 26)
  have hc3 := hc2.below al2
  have og3 := og.below al2 (Nat.le_refl _)
  have xg3 := new_at (w := w2) (n := w2.heap.size) (o := .cells #[.slice ag xs.length cg] 26) rfl
  obtain ⟨W3, hW3⟩ : ∃ W, W = w2.alloc (.cells #[.slice ag xs.length cg] 26) := ⟨_, rfl⟩
  have hs3 : W3.heap.size = w2.heap.size + 1 := by rw [hW3]; simp
  rw [← hW3] at hc3 og3 xg3
  have HW3 := Lib.hid hW3
  have HS3 := Lib.hid hs3
  clear hW3 al2 og hc2 g2 hc1 hxs hs3
  go_wp2_with fail
  rw [← HW3.out]
  refine (l2Draw_any W0 a cap n cb 6 W3 hc3 hn (by omega) (by omega)).mono ?_; rintro e w4 ⟨ys, ah, ch, rfl, hys, oh, hc4, g4⟩
  have hyl : ys.length ≤ 4 := by have := (grp_parts hys).1; omega
  have hs34 : W3.heap.size ≤ w4.heap.size := g4.size
  have og4 := og3.cur g4 hcb1
  have xg4 := one_grown xg3 g4 (by simp; omega)
  have al4 := (Below.refl w4.heap.size w4).alloc (Nat.le_refl _) (.cells #[.slice ah ys.length ch] 26)
  obtain ⟨W5, hW5⟩ : ∃ W, W = w4.alloc (.cells #[.slice ah ys.length ch] 26) := ⟨_, rfl⟩
  have X5 : Fx w W0 a n cap cb w2.heap.size w4.heap.size ag cg xs ah ch ys w1.heap.size W5 := by
    have h3 := HS3.out
    rw [hW5]
    exact ⟨hc4.below al4, one_alloc xg4, new_at rfl, og4.below al4 (Nat.le_refl _), (oh.mono (by omega)).below al4 (Nat.le_refl _), one_below HR1.out (hc4.below al4).bel (Nat.le_refl _), one_below HR2.out (hc4.below al4).bel (Nat.le_refl _), HA1.out.trans ((hc4.below al4).bel.mono (by omega)), ⟨by omega, by omega, by omega⟩, by omega, by omega, by omega, by omega⟩
  have HW5 := Lib.hid hW5
  have hs35 := HS3.out
  have d1 : ¬ w.heap.size = w2.heap.size := by omega
  have d2 : ¬ w2.heap.size = w.heap.size := by omega
  have d3 : ¬ w.heap.size = w4.heap.size := by omega
  have d4 : ¬ w4.heap.size = w.heap.size := by omega
  have d5 : ¬ w.heap.size + 1 = w2.heap.size := by omega
  have d6 : ¬ w2.heap.size = w.heap.size + 1 := by omega
  have d7 : ¬ w.heap.size + 1 = w4.heap.size := by omega
  have d8 : ¬ w4.heap.size = w.heap.size + 1 := by omega
  have q5 := cell_of_one X5.xg
  have q5h := cell_of_one X5.xh
  have r15 := cell_of_one X5.r1
  have f15 := free_of_one X5.r1
  have r25 := cell_of_one X5.r2
  have f25 := free_of_one X5.r2
  have CL := Lib.hid (l3Set_any W0 a cap n cb ag cg xs W5.drew X5.drew.cw hn X5.drew.og.ints (by omega))
  have HX := Lib.hid X5.drew
  clear hW5 al4 og3 og4 xg3 xg4 oh hc4 g4 hc3 hys X5 hs35
  go_wp2_with fail
  rw [← HW5.out]
  go_region_with (go_at_call 95; refine CL.out.mono ?_; rintro e w6 ⟨z, rfl, hz, hc6, g6⟩; have X6 := HX.out.grown hc6 g6; have q6 := cell_of_one X6.xg; have q7 := cell_of_one X6.xh; have r1c := cell_of_one X6.r1; have f1 := free_of_one X6.r1; have r2c := cell_of_one X6.r2; have f2 := free_of_one X6.r2)
  all_goals
    have HF1 := Lib.hid (fin2 (B := w1.heap.size) (by have := X6.ne; omega) X6.bel (.slice ag xs.length cg) (.slice ah ys.length ch))
    have HF2 := Lib.hid (fin2B (B := w1.heap.size) (by have := X6.ne; omega) X6.bel (.slice ag xs.length cg) (.slice ah ys.length ch))
    have HO := Lib.hid (And.intro X6.og X6.oh)
    clear X6 q6 q7
    go_wp2_with fail
    first
      | exact bodyPost_ret (v := .tuple #[.agg #[.slice ag xs.length cg], .agg #[.slice ah ys.length ch], .int .i64 z]) (by simp [results, Try.results63, go_sem, r1c, r2c, d1, d2, d3, d4, d5, d6, d7, d8]) rfl ⟨xs, ag, cg, ys, ah, ch, z, rfl, hxl, hyl, HF1.out.1 HO.out.1, HF1.out.1 HO.out.2, HF1.out.2⟩
      | exact bodyPost_ret (v := .tuple #[.agg #[.slice ag xs.length cg], .agg #[.slice ah ys.length ch], .int .i64 z]) (by simp [results, Try.results63, go_sem, r1c, r2c, d1, d2, d3, d4, d5, d6, d7, d8]) rfl ⟨xs, ag, cg, ys, ah, ch, z, rfl, hxl, hyl, HF2.out.1 HO.out.1, HF2.out.1 HO.out.2, HF2.out.2⟩
end Go.Proofs.Ytokpgbpdmfibjaa
