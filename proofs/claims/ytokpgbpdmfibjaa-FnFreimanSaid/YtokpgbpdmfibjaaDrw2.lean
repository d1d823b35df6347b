/-
Drawing a group: l2Draw. Conditions: codes of at most 2000000 bytes.
-/
import Derived.Test.YtokpgbpdmfibjaaDrw
import Derived.Test.YtokpgbpdmfibjaaGrp
namespace Go.Proofs.Ytokpgbpdmfibjaa
open Go.RowKit Go.ChangeShapes
set_option linter.unusedVariables false

/-- Lists laid one behind another. -/
def allocL (w : World) (LL : List (List Int)) : World := LL.foldl (fun w l => w.alloc (.cells (l.map (Value.int .i64)).toArray 3)) w
theorem allocL_size : ∀ (LL : List (List Int)) (w : World), (allocL w LL).heap.size = w.heap.size + LL.length
  | [], w => rfl
  | l :: LL, w => by
    show (allocL (w.alloc _) LL).heap.size = _
    rw [allocL_size LL]
    simp; omega
theorem allocL_below {B : Nat} {w0 : World} : ∀ (LL : List (List Int)) (w : World), Below B w0 w → B ≤ w.heap.size → Below B w0 (allocL w LL)
  | [], w, h, _ => h
  | l :: LL, w, h, hB => allocL_below LL _ (h.alloc hB _) (by simp; omega)
theorem allocL_block : ∀ (LL : List (List Int)) (w : World) (k : Nat) (l : List Int), LL[k]? = some l → (allocL w LL).heap[w.heap.size + k]? = some (.cells (l.map (Value.int .i64)).toArray 3 (0, 0))
  | [], w, k, l, h => by simp at h
  | x :: LL, w, 0, l, h => by
    simp at h
    subst h
    show (allocL (w.alloc _) LL).heap[w.heap.size + 0]? = _
    have hb := allocL_below LL (w.alloc (.cells (x.map (Value.int .i64)).toArray 3)) (Below.refl (w.heap.size + 1) _) (by simp)
    rw [hb.block (w.heap.size + 0) (by omega)]
    exact heap_alloc_new _ _
  | x :: LL, w, k + 1, l, h => by
    have := allocL_block LL (w.alloc (.cells (x.map (Value.int .i64)).toArray 3)) k l (by simpa using h)
    have e : (w.alloc (.cells (x.map (Value.int .i64)).toArray 3)).heap.size + k = w.heap.size + (k + 1) := by simp; omega
    rw [e] at this
    exact this
theorem Ints.of_block {w : World} {b : Nat} {l : List Int} (h : w.heap[b]? = some (.cells (l.map (Value.int .i64)).toArray 3 (0, 0))) (hw : ∀ x ∈ l, (Lit.int .i64 x).wf = true) (hl : l.length ≤ 1000) : Ints w (some ⟨b, 0, none⟩) l.length l := by
  refine ⟨Nat.le_refl _, by unfold maxLen; omega, (fun h => by cases h), hw, .inr ⟨b, 0, rfl, lt_of_block h, fun i hi => ?_⟩⟩
  simp [World.cell?, h, hi]
/-- The groups to choose from. -/
def grpsL : List (List Int) := [[], [2], [3], [4], [5], [6], [7], [8], [9], [10], [11], [12], [2, 2], [2, 4], [3, 3], [2, 6], [2, 2, 2], [13], [16], [4, 4], [2, 2, 3], [2, 3], [24]]
theorem grpsL_ok : ∀ l ∈ grpsL, grpB l = true ∧ (∀ x ∈ l, (Lit.int .i64 x).wf = true) ∧ l.length ≤ 3 := by decide
/-- The values of slices of lists laid one behind another. -/
def slcs (b : Nat) : List (List Int) → List Value
  | [] => []
  | l :: LL => .slice (some ⟨b, 0, none⟩) l.length l.length :: slcs (b + 1) LL
theorem slcs_get : ∀ (LL : List (List Int)) (b k : Nat) (l : List Int), LL[k]? = some l → (slcs b LL)[k]? = some (.slice (some ⟨b + k, 0, none⟩) l.length l.length)
  | [], b, k, l, h => by simp at h
  | x :: LL, b, 0, l, h => by simp at h; subst h; simp [slcs]
  | x :: LL, b, k + 1, l, h => by
    have := slcs_get LL (b + 1) k l (by simpa using h)
    simp only [slcs, List.getElem?_cons_succ, this]
    rw [show b + 1 + k = b + (k + 1) by omega]

/-- The world behind the literal of all groups. -/
def drawnW (w : World) : World := (allocL (w.alloc (.cells #[.slice none 0 0] 26)) grpsL).alloc (.cells (slcs (w.heap.size + 1) grpsL).toArray 24)
theorem drawnW_below (w : World) : Below w.heap.size w (drawnW w) := by
  unfold drawnW
  have h := allocL_below grpsL _ ((Below.refl w.heap.size w).alloc (Nat.le_refl _) (.cells #[.slice none 0 0] 26)) (by simp)
  exact h.alloc h.size _
theorem drawnW_size (w : World) : (drawnW w).heap.size = w.heap.size + 25 := by
  unfold drawnW
  simp [allocL_size, grpsL]
theorem drawnW_outer (w : World) : (drawnW w).heap[w.heap.size + 24]? = some (.cells (slcs (w.heap.size + 1) grpsL).toArray 24 (0, 0)) := by
  unfold drawnW
  have e : (allocL (w.alloc (.cells #[.slice none 0 0] 26)) grpsL).heap.size = w.heap.size + 24 := by simp [allocL_size, grpsL]
  rw [← e]
  exact heap_alloc_new _ _
theorem drawnW_res (w : World) : (drawnW w).heap[w.heap.size]? = some (.cells #[.slice none 0 0] 26 (0, 0)) := by
  unfold drawnW
  have h1 := new_at (w := w) (n := w.heap.size) (o := .cells #[.slice none 0 0] 26) rfl
  have h2 := allocL_below grpsL (w.alloc (.cells #[.slice none 0 0] 26)) (Below.refl (w.heap.size + 1) _) (by simp)
  exact one_alloc (one_below h1 h2 (by simp))
theorem drawnW_list (w : World) {k : Nat} {l : List Int} (h : grpsL[k]? = some l) : (drawnW w).heap[w.heap.size + 1 + k]? = some (.cells (l.map (Value.int .i64)).toArray 3 (0, 0)) := by
  unfold drawnW
  have := allocL_block grpsL (w.alloc (.cells #[.slice none 0 0] 26)) k l h
  have e : (w.alloc (.cells #[.slice none 0 0] 26)).heap.size = w.heap.size + 1 := by simp
  rw [e] at this
  exact one_alloc this
theorem OwnI.one {w : World} {B g : Nat} {x : Int} (hg : g = w.heap.size) (hB : B ≤ g) (hx : (Lit.int .i64 x).wf = true) : OwnI (w.alloc (.cells #[.int .i64 x] 3)) B (some ⟨g, 0, none⟩) 1 [x] := by
  subst hg
  exact ⟨by simpa using hx, by simp, .inr ⟨w.heap.size, 1, #[.int .i64 x], rfl, hB, heap_alloc_new w _, by simp, by simp [maxLen], by simp, by simp⟩⟩
theorem grown_setNew {w W : World} {q : Option Nat} (h : w.grownBy W q) {b k : Nat} {v : Value} (hb : w.heap.size ≤ b) : w.grownBy (W.setCell ⟨b, k, none⟩ v) q :=
  ⟨h.os, h.tape, h.output, by have := h.size; simp [World.setCell]; exact this, fun i hi hne => by rw [Below.heap_setCell _ _ _ _ (show i ≠ b by omega)]; exact h.block i hi hne⟩
/-- The end of a function that hands back a group in its own cell, the first one that it made. -/
theorem fin_g {w0 w W : World} {a : Option Addr} {n cap cb B : Nat} {ag : Option Addr} {cg : Nat} {xs : List Int} (hc : CW w0 a n cap cb W) (hg : w.grownBy W (some cb)) (hcb : cb < w.heap.size) (hw0 : w0.heap.size ≤ w.heap.size) (ho : OwnI W B ag cg xs) (hB : w.heap.size < B) (V : Value) :
    OwnI (W.setCell ⟨w.heap.size, 0, none⟩ V) w.heap.size ag cg xs ∧ CW w0 a n cap cb (W.setCell ⟨w.heap.size, 0, none⟩ V) ∧ w.grownBy (W.setCell ⟨w.heap.size, 0, none⟩ V) (some cb) := by
  refine ⟨OwnI.mono ⟨ho.1, ownsRow_setCell_below ho.2 hB V⟩ (by omega), hc.grown (grown_setK _ _ _) (by simp; omega) (fun b hb => by cases hb; exact hw0), grown_setNew hg (Nat.le_refl _)⟩
/-- What drawing a group leaves. -/
def GaveC (P : List Int → Prop) (w0 : World) (a : Option Addr) (n cap cb : Nat) (w : World) (e : Ending) (w' : World) : Prop :=
  ∃ xs ag cg, e = .returned (.agg #[.slice ag (xs : List Int).length cg]) ∧ P xs ∧ OwnI w' w.heap.size ag cg xs ∧ CW w0 a n cap cb w' ∧ w.grownBy w' (some cb)
set_option maxRecDepth 100000 in
set_option maxHeartbeats 6400000 in
theorem l2Draw_any (w0 : World) (a : Option Addr) (cap n cb : Nat) (most : Int) (w : World) (hc : CW w0 a n cap cb w) (hn : n ≤ 2000000) (hm : most ≤ 1000) (hm0 : 0 ≤ most) :
    Calls Try.prog 101 #[.pointer (some ⟨cb, 0, none⟩), .int .i64 most] w (GaveC (fun xs => grpB xs = true) w0 a n cap cb w) := by
  have hbW := drawnW_below w
  have hcW := hc.below hbW
  have hcbl := hc.lt
  have CB := Lib.hid (below_any w0 a cap n cb 23 (drawnW w) hcW hn (by omega))
  clear hcW
  go_enter Try.func101, Try.ntmps101
  go_wp2_with fail
  refine CB.out.mono ?_; rintro e w1 ⟨k, rfl, hk, hc1, g1⟩
  have hk23 : k < 23 := by omega
  obtain ⟨l, hl⟩ : ∃ l, grpsL[k]? = some l := ⟨grpsL[k]'(by simpa [grpsL] using hk23), List.getElem?_eq_getElem _⟩
  obtain ⟨lg, lw, ll⟩ := grpsL_ok l (List.mem_of_getElem? hl)
  have ho1 := one_grown (drawnW_outer w) g1 (by simp; omega)
  have hr1 := one_grown (drawnW_res w) g1 (by simp; omega)
  have hl1 := one_grown (drawnW_list w hl) g1 (by simp; omega)
  have d1 : w1.cell? ⟨w.heap.size + 24, k, none⟩ = some (.slice (some ⟨w.heap.size + 1 + k, 0, none⟩) l.length l.length) := by
    have := slcs_get grpsL (w.heap.size + 1) k l hl
    simp [World.cell?, ho1, this]
  have hI := Ints.of_block hl1 lw (by omega)
  have hB1 : w.grownBy w1 (some cb) := grown_trans (grown_of hbW (some cb)) g1
  have hk0 : (0 : Int) ≤ (k : Int) := by omega
  have hk1 : (k : Int) < 23 := by omega
  have hsz := drawnW_size w
  have hs1 : w.heap.size + 25 ≤ w1.heap.size := by have := g1.size; omega
  have q0 := cell_of_one hr1
  have f0 := free_of_one hr1
  have HR := Lib.hid hr1
  have HLG := Lib.hid lg
  obtain ⟨bl, hbl⟩ : ∃ b, b = w.heap.size + 1 + k := ⟨_, rfl⟩
  rw [← hbl] at d1 hI
  have HI := Lib.hid hI
  have d2 : w1.cell? ⟨w.heap.size + 1 + 1 + 1 + 1 + 1 + 1 + 1 + 1 + 1 + 1 + 1 + 1 + 1 + 1 + 1 + 1 + 1 + 1 + 1 + 1 + 1 + 1 + 1 + 1, k, none⟩ = some (.slice (some ⟨bl, 0, none⟩) l.length l.length) := d1
  obtain ⟨g2, g3, g4, g5⟩ := grp_parts lg
  have HO := Lib.hid g3
  have hbl1 : w.heap.size < bl ∧ bl < w1.heap.size := by omega
  have HCELL : Hid (∀ i (hi : i < l.length), w1.cell? ⟨bl, 0 + i, none⟩ = some (.int .i64 l[i])) := by
    apply Lib.hid
    intro i hi
    rcases hI.2.2.2.2 with h | ⟨b, off, he, _, hcell⟩
    · subst h; simp at hi
    · simp only [Option.some.injEq, Addr.mk.injEq, and_true] at he
      obtain ⟨rfl, rfl⟩ := he
      exact hcell i hi
  clear hl ho1 hl1 g1 hbW hsz hr1 lg lw hI CB hk d1 hbl g3 g4
  go_wp2_with fail
  go_loop [7, 8] (fun vn vi => ∃ i : Nat, i ≤ l.length ∧ vi = .int .i64 (i : Int) ∧ vn = .int .i64 (gord (l.take i))) (fun _ vi => (l.length - intOf vi).toNat)
  case atStart => exact ⟨0, by omega, rfl, by simp [gord]⟩
  case round =>
    obtain ⟨i, hi, rfl, rfl⟩ := hrel
    by_cases hlt : i < l.length
    · have c1 := HCELL.out i hlt
      rw [Nat.zero_add] at c1
      have hg := gord_take hlt
      have hbd := gord_bd _ (ordsIn_take (i + 1) HO.out) (by simp; omega)
      obtain ⟨x, hx⟩ : ∃ x, x = l[i] := ⟨_, rfl⟩
      rw [← hx] at c1 hg
      obtain ⟨m, hm2⟩ : ∃ n, n = gord (l.take i) := ⟨_, rfl⟩
      rw [← hm2] at hg ⊢
      rw [hg] at hbd
      have HG := Lib.hid hg
      have hii : (i : Int) < l.length := by omega
      clear hx hm2 hg
      go_wp2_with fail
      go_round
      case rel => exact ⟨i + 1, by omega, by go_num, by rw [HG.out]⟩
      case measure => simp [intOf]; omega
    · obtain rfl : i = l.length := by omega
      rw [List.take_length]
      have hlt2 : cb ≠ w.heap.size := by omega
      by_cases hbig : most < gord l
      · have ho := OwnI.one (w := w1) (B := w1.heap.size) (x := 5) rfl (Nat.le_refl _) (wf_of (by omega) (by omega))
        have hF := fin_g (hc1.below ((Below.refl w1.heap.size w1).alloc (Nat.le_refl _) (.cells #[.int .i64 5] 3))) (grown_trans hB1 (grown_of ((Below.refl w1.heap.size w1).alloc (Nat.le_refl _) (.cells #[.int .i64 5] 3)) _)) hcbl hc.bel.size ho (by omega) (.slice (some ⟨w1.heap.size, 0, none⟩) 1 1)
        have HF := Lib.hid hF
        have q1 : (w1.alloc (.cells #[.int .i64 5] 3)).cell? ⟨w.heap.size, 0, none⟩ = some (.slice none 0 0) := by rw [World.cell?_alloc_past _ _ _ (by omega)]; exact q0
        have f1 := (((Below.refl w1.heap.size w1).alloc (Nat.le_refl _) (.cells #[.int .i64 5] 3)).frozen (p := ⟨w.heap.size, 0, none⟩) (by show w.heap.size < w1.heap.size; omega)).trans f0
        clear ho hF hlt2
        go_wp2_with fail
        exact bodyPost_ret (v := .agg #[.slice (some ⟨w1.heap.size, 0, none⟩) 1 1]) (by simp [results, Try.results101, go_sem, q1]) rfl ⟨[5], _, _, rfl, by decide, HF.out⟩
      · have h1 := (HI.out).alloc (.cells #[] 3)
        have hm := OwnI.made w1 w1.heap.size (Nat.le_refl _)
        have hb1 := (Below.refl w1.heap.size w1).alloc (Nat.le_refl _) (.cells #[] 3)
        have hl0 : ([] : List Int).length ≤ 2000000 := by simp
        have hl1 : l.length ≤ 2000000 := by omega
        have hsz : w1.heap.size ≤ (w1.alloc (.cells #[] 3)).heap.size := by simp
        go_wp2_with (at_builtin; refine wpList_appAll rfl (.tmp 57) (.tmp 58) rfl w1.heap.size _ _ [] _ _ l rfl rfl hm h1 hl0 hl1 hsz ?_)
        intro a2 c2 w2 o2 hg2
        have hb2 := hg2 _ hb1
        have hF := fin_g (hc1.below hb2) (grown_trans hB1 (grown_of hb2 _)) hcbl hc.bel.size o2 (by omega) (.slice a2 l.length c2)
        have HF := Lib.hid hF
        have q1 := (hb2.cell (p := ⟨w.heap.size, 0, none⟩) (by show w.heap.size < w1.heap.size; omega)).trans q0
        have f1 := (hb2.frozen (p := ⟨w.heap.size, 0, none⟩) (by show w.heap.size < w1.heap.size; omega)).trans f0
        clear hF hlt2 o2 hg2 h1 hm hb1 hl0 q0 f0
        go_wp2_with fail
        exact bodyPost_ret (v := .agg #[.slice a2 l.length c2]) (by simp [results, Try.results101, go_sem, q1]) rfl ⟨l, _, _, rfl, HLG.out, HF.out⟩
end Go.Proofs.Ytokpgbpdmfibjaa
