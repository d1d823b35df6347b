/-
Contracts of areSets, of both sides' SumTable and CorrelationOf, at sets of a group. Conditions: lengths at most 2000000.
-/
import Derived.Test.YtokpgbpdmfibjaaDif
import Derived.Test.YtokpgbpdmfibjaaPop
import Derived.Deep.RegionHeld3
namespace Go.Proofs.Ytokpgbpdmfibjaa
open Go.RowKit Go.ChangeShapes
set_option linter.unusedVariables false

def inc (t : List Int) (z : Nat) : List Int := t.set z (t.getD z 0 + 1)
def rowT (os : List Int) (x : Nat) (l : List Int) (t : List Int) : List Int := l.foldl (fun t y => inc t (gadd os x y.toNat)) t
def tabT (os : List Int) (l l' : List Int) (t : List Int) : List Int := l.foldl (fun t x => rowT os x.toNat l' t) t
theorem inc_len (t : List Int) (z : Nat) : (inc t z).length = t.length := by simp [inc]
theorem rowT_len (os : List Int) (x : Nat) : ∀ (l t : List Int), (rowT os x l t).length = t.length
  | [], _ => rfl
  | y :: l, t => by
    show (rowT os x l (inc t (gadd os x y.toNat))).length = _
    rw [rowT_len os x l, inc_len]
theorem tabT_len (os l' : List Int) : ∀ (l t : List Int), (tabT os l l' t).length = t.length
  | [], _ => rfl
  | x :: l, t => by
    show (tabT os l l' (rowT os x.toNat l' t)).length = _
    rw [tabT_len os l' l, rowT_len]
theorem rowT_take {os : List Int} {x : Nat} {l t : List Int} {k : Nat} (h : k < l.length) : rowT os x (l.take (k + 1)) t = inc (rowT os x (l.take k) t) (gadd os x l[k].toNat) := by
  unfold rowT; rw [take_snoc' l k h, List.foldl_append]; rfl
theorem tabT_take {os : List Int} {l l' t : List Int} {k : Nat} (h : k < l.length) : tabT os (l.take (k + 1)) l' t = rowT os l[k].toNat l' (tabT os (l.take k) l' t) := by
  unfold tabT; rw [take_snoc' l k h, List.foldl_append]; rfl
/-- All entries are from 0 to m. -/
def Bd (m : Nat) (t : List Int) : Prop := ∀ v ∈ t, 0 ≤ v ∧ v ≤ (m : Int)
theorem Bd.inc {m : Nat} {t : List Int} (h : Bd m t) (z : Nat) (hz : z < t.length) : Bd (m + 1) (inc t z) := by
  intro v hv
  unfold Go.Proofs.Ytokpgbpdmfibjaa.inc at hv
  rcases List.mem_or_eq_of_mem_set hv with hv | hv
  · have := h v hv; omega
  · have h2 := h _ (List.getElem_mem hz)
    have e : t.getD z 0 = t[z] := by simp [List.getD, hz]
    rw [e] at hv
    omega
theorem Bd.rep (n : Nat) : Bd 0 (List.replicate n 0) := by
  intro v hv
  rw [List.mem_replicate] at hv
  omega
theorem Bd.mono {m m' : Nat} {t : List Int} (h : Bd m t) (hm : m ≤ m') : Bd m' t := fun v hv => by have := h v hv; omega
theorem Bd.at {m : Nat} {t : List Int} (h : Bd m t) {z : Nat} (hz : z < t.length) : 0 ≤ t.getD z 0 ∧ t.getD z 0 ≤ (m : Int) := by
  have e : t.getD z 0 = t[z] := by simp [List.getD, hz]
  rw [e]; exact h _ (List.getElem_mem hz)
theorem OwnI.setLow' {w : World} {B : Nat} {a : Option Addr} {c : Nat} {xs : List Int} (h : OwnI w B a c xs) {p : Addr} (hp : p.block < B) (u : Value) : OwnI (w.setCell p u) B a c xs :=
  ⟨h.1, ownsRow_setCell_below h.2 hp u⟩
theorem cell_far {w : World} {b c o o' : Nat} {v u : Value} (h : w.cell? ⟨b, o, none⟩ = some v) (hne : b ≠ c) : (w.setCell ⟨c, o', none⟩ u).cell? ⟨b, o, none⟩ = some v := by
  rw [World.cell?_of_block (w := w) (Below.heap_setCell _ _ _ _ hne)]; exact h
/-- A list of two numbers that has just been built. -/
theorem Ints.lit2 {w : World} {g : Nat} (hg : g = w.heap.size) (x y : Int) (hx : (Lit.int .i64 x).wf = true) (hy : (Lit.int .i64 y).wf = true) : Ints (w.alloc (.cells #[.int .i64 x, .int .i64 y] 3)) (some ⟨g, 0, none⟩) 2 [x, y] := by
  subst hg
  refine ⟨by simp, by simp [maxLen], (fun h => by cases h), ?_, .inr ⟨w.heap.size, 0, rfl, by simp, ?_⟩⟩
  · intro n hn
    simp at hn
    rcases hn with rfl | rfl <;> assumption
  · intro i hi
    match i, hi with
    | 0, _ => simp [go_sem]
    | 1, _ => simp [go_sem]

/-- The table of sums. -/
def tbl (os : List Int) (a b : Nat) : List Int := tabT os (mems a) (mems b) (List.replicate (gn os) 0)


set_option maxRecDepth 20000 in
set_option maxHeartbeats 3200000 in
theorem sumTable_spec (a0 : Option Addr) (c0 : Nat) (os : List Int) (a b : Nat) (w : World) (h0 : Ints w a0 c0 os) (hl : os.length ≤ 2000000) (hg0 : grpB os = true) (ha : a < setT os) (hb : b < setT os) :
    Calls Try.prog 121 #[.agg #[.slice a0 os.length c0], .int .i64 a, .int .i64 b] w (GaveI w (tbl os a b)) := by
  have hb0 := (Below.refl w.heap.size w).alloc (Nat.le_refl _) (.cells #[.slice a0 os.length c0] 26)
  have h1 := h0.below hb0 (Nat.le_refl _)
  obtain ⟨g2, g3, g4, g5, g6⟩ := grp_gn hg0
  have hT := setT_bd hg0
  have hsa : setB os (a : Int) = true := by simp [setB, hg0]; omega
  have hsb : setB os (b : Int) = true := by simp [setB, hg0]; omega
  have C2 := Lib.hid (fun w h => l2Order_any a0 c0 os w h hg0)
  rw [← g5] at C2
  have CLA := Lib.hid (l3List_any a (by omega))
  have CLB := Lib.hid (l3List_any b (by omega))
  have HMA := Lib.hid (fun z (hz : z ∈ mems a) => mems_bd hz)
  have HMB := Lib.hid (fun z (hz : z ∈ mems b) => mems_bd hz)
  have hla := mems_len a
  have hlb := mems_len b
  have CA := Lib.hid (fun x y w h hx hy => l2Add_any a0 c0 os x y w h hg0 hx hy)
  have HZ := Lib.hid (fun x y => gadd_lt' g2 x y)
  have CSA := Lib.hid (fun w h => isSet_spec a0 c0 os (a : Int) w h hl)
  rw [hsa] at CSA
  have CSB := Lib.hid (fun w h => isSet_spec a0 c0 os (b : Int) w h hl)
  rw [hsb] at CSB
  unfold tbl
  obtain ⟨la, hlaa⟩ : ∃ l, l = mems a := ⟨_, rfl⟩
  obtain ⟨lb, hlbb⟩ : ∃ l, l = mems b := ⟨_, rfl⟩
  rw [← hlaa] at CLA HMA hla ⊢
  rw [← hlbb] at CLB HMB hlb ⊢
  obtain ⟨n, hn⟩ : ∃ n, n = gn os := ⟨_, rfl⟩
  rw [← hn] at C2 HZ g3 g4 ⊢
  have ha24 : a < 16777216 := by omega
  have hb24 : b < 16777216 := by omega
  clear hlaa hlbb hn g2 g5 g6 hg0 hsa hsb hT ha hb
  go_enter Try.func121, Try.ntmps121
  go_wp2_with fail
  refine (CSA.out _ h1).mono ?_; rintro e w1 ⟨rfl, b1⟩
  have q1' := box_cell b1 (by simp)
  have z1' : w.heap.size < w1.heap.size := by have := b1.size; simp at this; omega
  have h2' := h1.below b1 (Nat.le_refl _)
  have hb1' := nx hb0 b1
  clear b1 hb0 h1
  go_wp2_with fail
  refine (CSB.out _ h2').mono ?_; rintro e w1 ⟨rfl, b1⟩
  have q1 := (b1.cell (p := ⟨w.heap.size, 0, none⟩) z1').trans q1'
  have z1 := Nat.lt_of_lt_of_le z1' b1.size
  have h2 := h2'.below b1 (Nat.le_refl _)
  have hb1 := nx hb1' b1
  clear b1 q1' z1' h2' hb1'
  go_wp2_with fail
  refine (C2.out _ h2).mono ?_; rintro e w2 ⟨rfl, b2⟩
  have q2 := (b2.cell (p := ⟨w.heap.size, 0, none⟩) z1).trans q1
  have z2 := Nat.lt_of_lt_of_le z1 b2.size
  have hb2 := nx hb1 b2
  clear b2 q1 z1 hb1 h2 C2
  go_wp2_with (at_make; refine wpList_mk rfl _ _ rfl w2.heap.size _ _ n rfl rfl rfl rfl (by omega) (Nat.le_refl _) ?_)
  intro w3 o3 hgr
  have b3 := hgr _ (Below.refl _ _)
  have q3 := (b3.cell (p := ⟨w.heap.size, 0, none⟩) z2).trans q2
  have z3 := Nat.lt_of_lt_of_le z2 b3.size
  have hb3 := nx hb2 b3
  have tl := (o3.lt _ rfl).2
  clear hgr
  have hT0 : w.heap.size < w2.heap.size := z2
  go_wp2_with fail
  refine (CLA.out _).mono ?_; rintro e w4 ⟨a1, c1, rfl, o4, b4⟩
  have q4 := (b4.cell (p := ⟨w.heap.size, 0, none⟩) z3).trans q3
  have z4 := Nat.lt_of_lt_of_le z3 b4.size
  have hb4 := nx hb3 b4
  have o3' := o3.below b4 (Nat.le_refl _)
  go_wp2_with fail
  refine (CLB.out _).mono ?_; rintro e w5 ⟨a2, c2, rfl, o5, b5⟩
  have q5 := (b5.cell (p := ⟨w.heap.size, 0, none⟩) z4).trans q4
  have z5 := Nat.lt_of_lt_of_le z4 b5.size
  have hb5 := nx hb4 b5
  have o3'' := o3'.below b5 (Nat.le_refl _)
  have o4' := o4.below b5 (Nat.le_refl _)
  have HT := Lib.hid (show w2.heap.size < w3.heap.size from tl)
  have HTL := Lib.hid (show w2.heap.size < w4.heap.size from Nat.lt_of_lt_of_le tl b4.size)
  obtain ⟨B1, hB1⟩ : ∃ B, B = w3.heap.size := ⟨_, rfl⟩
  obtain ⟨B2, hB2⟩ : ∃ B, B = w4.heap.size := ⟨_, rfl⟩
  rw [← hB1] at HT o4'
  rw [← hB2] at HTL o5
  clear b3 b4 b5 q3 z3 q2 z2 hb2 hb3 o3 hB1 hB2 tl q4 z4 hb4 o3' o4
  go_wp2_with fail
  go_loopw [10] (fun vi wr => ∃ (k : Nat) (t : List Int), k ≤ la.length ∧ vi = .int .i64 (k : Int) ∧ Hid (t = tabT os (la.take k) lb (List.replicate n 0)) ∧ Hid (Bd (64 * k) t) ∧ Hid (t.length = n) ∧ OwnI wr w2.heap.size (some ⟨w2.heap.size, 0, none⟩) n t ∧ OwnI wr B1 a1 c1 la ∧ OwnI wr B2 a2 c2 lb ∧ Below w.heap.size w wr ∧ wr.cell? ⟨w.heap.size, 0, none⟩ = some (.slice a0 os.length c0) ∧ w.heap.size < wr.heap.size) (fun i _ => la.length - (intOf i).toNat)
  case atStart => exact ⟨0, _, by omega, rfl, Lib.hid (by simp [tabT]), Lib.hid (Bd.rep n), Lib.hid (by simp), o3'', o4', o5, hb5, q5, z5⟩
  case round =>
    clear hb5 q5 z5 o3'' o4' o5
    obtain ⟨k, t, hk, rfl, HTT, HBD, HLN, ot, oa, ob, hbel, q3, z3⟩ := hrel
    by_cases hlt : k < la.length
    · have hltb : decide ((k : Int) < (la.length : Int)) = true := by simp; omega
      obtain ⟨x1, x2⟩ := HMA.out _ (List.getElem_mem hlt)
      obtain ⟨x, hx⟩ := Int.eq_ofNat_of_zero_le x1
      have hst := tabT_take (os := os) (l' := lb) (t := List.replicate n 0) hlt
      rw [hx] at hst
      simp only [Int.toNat_natCast] at hst
      rw [← HTT.out] at hst
      have HST := Lib.hid hst
      have HX := Lib.hid hx
      have hx64 : x < 64 := by omega
      clear hx x1 x2 hst
      go_wp2_with fail
      go_loopw [11] (fun vj wr => ∃ (j : Nat) (u : List Int), j ≤ lb.length ∧ vj = .int .i64 (j : Int) ∧ Hid (u = rowT os x (lb.take j) t) ∧ Hid (Bd (64 * k + j) u) ∧ Hid (u.length = n) ∧ OwnI wr w2.heap.size (some ⟨w2.heap.size, 0, none⟩) n u ∧ OwnI wr B1 a1 c1 la ∧ OwnI wr B2 a2 c2 lb ∧ Below w.heap.size w wr ∧ wr.cell? ⟨w.heap.size, 0, none⟩ = some (.slice a0 os.length c0) ∧ w.heap.size < wr.heap.size) (fun i _ => lb.length - (intOf i).toNat)
      case atStart => exact ⟨0, t, by omega, rfl, Lib.hid (by simp [rowT]), HBD, HLN, ot, oa, ob, hbel, q3, z3⟩
      case round =>
        clear hbel q3 z3 ot oa ob
        obtain ⟨j, u, hj, rfl, HU, HBU, HLU, ou, oa, ob, hbel, q3, z3⟩ := hrel
        by_cases hlj : j < lb.length
        · have hltb2 : decide ((j : Int) < (lb.length : Int)) = true := by simp; omega
          obtain ⟨-, -, -, -, hca⟩ := oa.ints
          obtain ⟨-, -, -, -, hcs⟩ := ob.ints
          rcases hca with hca | ⟨b1, off, rfl, hbB, hcella⟩
          · subst hca; simp at hlt
          rcases hcs with hcs | ⟨b2, off2, rfl, hbB2, hcell⟩
          · subst hcs; simp at hlj
          · have d1 := hcella k hlt
            rw [HX.out] at d1
            have d2 := hcell j hlj
            obtain ⟨y1, y2⟩ := HMB.out _ (List.getElem_mem hlj)
            obtain ⟨y, hy⟩ := Int.eq_ofNat_of_zero_le y1
            have hst := rowT_take (os := os) (x := x) (t := t) hlj
            rw [hy] at d2 hst
            simp only [Int.toNat_natCast] at hst
            rw [← HU.out] at hst
            have CZ := Lib.hid (fun w h => CA.out x y w h (by omega) (by omega))
            have hz := HZ.out x y
            obtain ⟨z, hzz⟩ : ∃ z, z = gadd os x y := ⟨_, rfl⟩
            rw [← hzz] at hst CZ hz
            have HST2 := Lib.hid hst
            have h4 := h0.below hbel (Nat.le_refl _)
            have hzu : z < u.length := by have := HLU.out; omega
            have HBN := Lib.hid (HBU.out.inc z hzu)
            obtain ⟨v1, v2⟩ := HBU.out.at hzu
            have HLN2 := Lib.hid (show (inc u z).length = n by rw [inc_len]; exact HLU.out)
            have hka : (k : Int) < la.length := by omega
            have hjb : (j : Int) < lb.length := by omega
            clear hcell hcella hy y1 hst hzz
            go_wp2_with fail
            go_region_held3 (fun w' => w'.cell? ⟨w.heap.size, 0, none⟩ = some (.slice a0 os.length c0) ∧ w'.cell? ⟨b1, off + k, none⟩ = some (.int .i64 x) ∧ w'.cell? ⟨b2, off2 + j, none⟩ = some (.int .i64 y)) (exact ⟨by assumption, by assumption, by assumption⟩) (first
              | (go_at_call 102; refine (CZ.out _ h4.drew).mono ?_; rintro e w6 ⟨rfl, b6⟩; have q6 := (b6.cell (p := ⟨w.heap.size, 0, none⟩) z3).trans q3; have d3 := (b6.cell (p := ⟨b1, off + k, none⟩) hbB).trans d1; have d4 := (b6.cell (p := ⟨b2, off2 + j, none⟩) hbB2).trans d2))
            have b6' := below_undrew b6
            have z6 : w.heap.size < w6.heap.size := Nat.lt_of_lt_of_le z3 b6.size
            have hb6 := nx hbel b6'
            have ou6 := ou.below b6' (Nat.le_refl _)
            have oa6 := oa.below b6' (Nat.le_refl _)
            have ob6 := ob.below b6' (Nat.le_refl _)
            have g1 := ou6.cell z hzu
            have gf := ou6.frozen z
            rw [show u[z] = u.getD z 0 by simp [List.getD, hzu]] at g1
            obtain ⟨v, hv⟩ : ∃ v, v = u.getD z 0 := ⟨_, rfl⟩
            have os6 := ou6.set z (v + 1) (wf_of (by omega) (by omega))
            have e1 : u.set z (v + 1) = inc u z := by rw [hv]; rfl
            rw [e1] at os6
            rw [← hv] at g1 v1 v2
            have oa7 := oa6.setLow' (p := ⟨w2.heap.size, z, none⟩) HT.out (.int .i64 (v + 1))
            have ob7 := ob6.setLow' (p := ⟨w2.heap.size, z, none⟩) HTL.out (.int .i64 (v + 1))
            have hb7 := hb6.setCell (p := ⟨w2.heap.size, z, none⟩) (Nat.le_of_lt hT0) (.int .i64 (v + 1))
            have q7 := cell_far (o' := z) (u := .int .i64 (v + 1)) q6 (Nat.ne_of_lt hT0)
            have hzn : (z : Int) < (n : Int) := by omega
            have HO := Lib.hid os6
            have HOA := Lib.hid oa7
            have HOB := Lib.hid ob7
            clear b6 b6' hbel q3 z3 ou oa ob ou6 oa6 ob6 h4 hb6 q6 e1 os6 oa7 ob7 hv d1 d2 d3 d4
            go_wp2_with fail
            go_roundw
            case rel => exact ⟨j + 1, inc u z, by omega, by go_num, Lib.hid HST2.out.symm, Lib.hid (by have := HBN.out; rwa [Nat.add_assoc] at this), HLN2, HO.out, HOA.out, HOB.out, hb7, q7, by simpa [World.setCell] using z6⟩
            case measure => simp [intOf]; omega
        · obtain rfl : j = lb.length := by omega
          have e := HU.out
          rw [List.take_length, ← HST.out] at e
          have HE := Lib.hid e
          clear e HU HST
          go_wp2_with fail
          go_roundw
          case rel => exact ⟨k + 1, u, by omega, by go_num, HE, Lib.hid (HBU.out.mono (by omega)), HLU, ou, oa, ob, hbel, q3, z3⟩
          case measure => simp [intOf]; omega
    · obtain rfl : k = la.length := by omega
      have e := HTT.out
      rw [List.take_length] at e
      have HE := Lib.hid e
      clear e HTT oa ob
      go_wp2_with fail
      go_ret
      have he := HE.out
      subst he
      exact ⟨some ⟨w2.heap.size, 0, none⟩, n, by rw [HLN.out]; rfl, ot.mono (Nat.le_of_lt hT0), hbel⟩
end Go.Proofs.Ytokpgbpdmfibjaa
