/-
Contracts of areSets, of both sides' SumTable and CorrelationOf, at sets of a group. Conditions: lengths at most 2000000.
-/
import Derived.Test.YtheeglaocflgmaaDif
import Derived.Test.YtheeglaocflgmaaPop
import Derived.Deep.RegionHeld3
namespace Go.Proofs.Ytheeglaocflgmaa
open Go.RowKit Go.ChangeShapes
set_option linter.unusedVariables false

def inc (t : List Int) (z : Nat) : List Int := t.set z (t.getD z 0 + 1)
def rowT (os : List Int) (x : Nat) (l : List Int) (t : List Int) : List Int := l.foldl (fun t y => inc t (gadd os x y.toNat)) t
def tabT (os : List Int) (l l' : List Int) (t : List Int) : List Int := l.foldl (fun t x => rowT os x.toNat l' t) t
theorem inc_len (t : List Int) (z : Nat) : (inc t z).length = t.length := by simp [inc]
theorem rowT_len (os : List Int) (x : Nat) : ∀ (l t : List Int), (rowT os x l t).length = t.length
  | [], _ => rfl
  | y :: l, t => by
    show (rowT os x l (inc t (gadd os x y.toNat))).length = _
    rw [rowT_len os x l, inc_len]
theorem tabT_len (os l' : List Int) : ∀ (l t : List Int), (tabT os l l' t).length = t.length
  | [], _ => rfl
  | x :: l, t => by
    show (tabT os l l' (rowT os x.toNat l' t)).length = _
    rw [tabT_len os l' l, rowT_len]
theorem rowT_take {os : List Int} {x : Nat} {l t : List Int} {k : Nat} (h : k < l.length) : rowT os x (l.take (k + 1)) t = inc (rowT os x (l.take k) t) (gadd os x l[k].toNat) := by
  unfold rowT; rw [take_snoc' l k h, List.foldl_append]; rfl
theorem tabT_take {os : List Int} {l l' t : List Int} {k : Nat} (h : k < l.length) : tabT os (l.take (k + 1)) l' t = rowT os l[k].toNat l' (tabT os (l.take k) l' t) := by
  unfold tabT; rw [take_snoc' l k h, List.foldl_append]; rfl
/-- All entries are from 0 to m. -/
def Bd (m : Nat) (t : List Int) : Prop := ∀ v ∈ t, 0 ≤ v ∧ v ≤ (m : Int)
theorem Bd.inc {m : Nat} {t : List Int} (h : Bd m t) (z : Nat) (hz : z < t.length) : Bd (m + 1) (inc t z) := by
  intro v hv
  unfold Go.Proofs.Ytheeglaocflgmaa.inc at hv
  rcases List.mem_or_eq_of_mem_set hv with hv | hv
  · have := h v hv; omega
  · have h2 := h _ (List.getElem_mem hz)
    have e : t.getD z 0 = t[z] := by simp [List.getD, hz]
    rw [e] at hv
    omega
theorem Bd.rep (n : Nat) : Bd 0 (List.replicate n 0) := by
  intro v hv
  rw [List.mem_replicate] at hv
  omega
theorem Bd.mono {m m' : Nat} {t : List Int} (h : Bd m t) (hm : m ≤ m') : Bd m' t := fun v hv => by have := h v hv; omega
theorem Bd.at {m : Nat} {t : List Int} (h : Bd m t) {z : Nat} (hz : z < t.length) : 0 ≤ t.getD z 0 ∧ t.getD z 0 ≤ (m : Int) := by
  have e : t.getD z 0 = t[z] := by simp [List.getD, hz]
  rw [e]; exact h _ (List.getElem_mem hz)
theorem OwnI.setLow' {w : World} {B : Nat} {a : Option Addr} {c : Nat} {xs : List Int} (h : OwnI w B a c xs) {p : Addr} (hp : p.block < B) (u : Value) : OwnI (w.setCell p u) B a c xs :=
  ⟨h.1, ownsRow_setCell_below h.2 hp u⟩
theorem cell_far {w : World} {b c o o' : Nat} {v u : Value} (h : w.cell? ⟨b, o, none⟩ = some v) (hne : b ≠ c) : (w.setCell ⟨c, o', none⟩ u).cell? ⟨b, o, none⟩ = some v := by
  rw [World.cell?_of_block (w := w) (Below.heap_setCell _ _ _ _ hne)]; exact h
/-- A list of two numbers that has just been built. -/
theorem Ints.lit2 {w : World} {g : Nat} (hg : g = w.heap.size) (x y : Int) (hx : (Lit.int .i64 x).wf = true) (hy : (Lit.int .i64 y).wf = true) : Ints (w.alloc (.cells #[.int .i64 x, .int .i64 y] 3)) (some ⟨g, 0, none⟩) 2 [x, y] := by
  subst hg
  refine ⟨by simp, by simp [maxLen], (fun h => by cases h), ?_, .inr ⟨w.heap.size, 0, rfl, by simp, ?_⟩⟩
  · intro n hn
    simp at hn
    rcases hn with rfl | rfl <;> assumption
  · intro i hi
    match i, hi with
    | 0, _ => simp [go_sem]
    | 1, _ => simp [go_sem]

def asB (os l : List Int) : Bool := l.all (fun a => setB os a) && grpB os
set_option maxHeartbeats 1600000 in
theorem areSets_any (a0 : Option Addr) (c0 : Nat) (os : List Int) (a1 : Option Addr) (c1 : Nat) (l : List Int) (w : World) (h0 : Ints w a0 c0 os) (k0 : Ints w a1 c1 l) (hl : os.length ≤ 2000000) (hll : l.length ≤ 2000000) :
    Calls Try.prog 73 #[.agg #[.slice a0 os.length c0], .slice a1 l.length c1] w fun e w' => e = .returned (.bool (asB os l)) ∧ Below w.heap.size w w' := by
  have hb0 := (Below.refl w.heap.size w).alloc (Nat.le_refl _) (.cells #[.slice a0 os.length c0] 46)
  have CS := Lib.hid (fun x w h => isSet_impl a0 c0 os x w h hl)
  have CG := Lib.hid (fun w h => isGroup_impl a0 c0 os w h hl)
  obtain ⟨r, hr⟩ : ∃ r, r = asB os l := ⟨_, rfl⟩
  rw [← hr]
  have HR := Lib.hid hr
  have HCS := Lib.hid k0.2.2.2.2
  clear hr
  go_enter Try.func73, Try.ntmps73
  go_wp2_with fail
  go_loopw [9] (fun vi wr => ∃ k : Nat, k ≤ l.length ∧ vi = .int .i64 (k : Int) ∧ Hid ((l.take k).all (fun a => setB os a) = true) ∧ Below w.heap.size w wr ∧ wr.cell? ⟨w.heap.size, 0, none⟩ = some (.slice a0 os.length c0) ∧ w.heap.size < wr.heap.size) (fun i _ => l.length - (intOf i).toNat)
  case atStart => exact ⟨0, by omega, rfl, Lib.hid (by simp), hb0, by simp [go_sem], by simp⟩
  case round =>
    obtain ⟨k, hk, rfl, HI, hbel, q3, z3⟩ := hrel
    have h3 := h0.below hbel (Nat.le_refl _)
    by_cases hlt : k < l.length
    · rcases HCS.out with hcs | ⟨b, off, rfl, hbB, hcell⟩
      · subst hcs; simp at hlt
      · have d1 := (hbel.cell (p := ⟨b, off + k, none⟩) hbB).trans (hcell k hlt)
        have hsn : Hid (setB os l[k] = true → (l.take (k + 1)).all (fun a => setB os a) = true) := Lib.hid (fun h => by
          rw [take_snoc' l k hlt, List.all_append, HI.out]; simp [h])
        have hno : Hid (setB os l[k] = false → r = false) := Lib.hid (fun h => by
          rw [HR.out]
          have : l.all (fun a => setB os a) = false := by
            rw [List.all_eq_false]; exact ⟨l[k], List.getElem_mem hlt, by simp [h]⟩
          simp [asB, this])
        obtain ⟨x, hx⟩ : ∃ x, x = l[k] := ⟨_, rfl⟩
        rw [← hx] at d1 hsn hno
        have CX := Lib.hid (CS.out x wr h3)
        clear hx hcell
        cases hs : setB os x with
        | true =>
          rw [hs] at CX
          have HN := Lib.hid (hsn.out hs)
          clear hs hsn hno
          go_wp2_with fail
          refine CX.out.mono ?_; rintro e w4 ⟨rfl, b4⟩
          go_wp2_with fail
          go_roundw
          case rel => exact ⟨k + 1, by omega, by go_num, HN, nx hbel b4, (b4.cell (p := ⟨w.heap.size, 0, none⟩) z3).trans q3, Nat.lt_of_lt_of_le z3 b4.size⟩
          case measure => simp [intOf]; omega
        | false =>
          rw [hs] at CX
          have e := hno.out hs
          subst e
          clear hs hsn hno HR
          go_wp2_with fail
          refine CX.out.mono ?_; rintro e w4 ⟨rfl, b4⟩
          go_wp2_with fail
          go_ret
          exact ⟨rfl, nx hbel b4⟩
    · obtain rfl : k = l.length := by omega
      have e : r = grpB os := by rw [HR.out, asB, show l.all (fun a => setB os a) = true by have := HI.out; rwa [List.take_length] at this, Bool.true_and]
      have CG1 := Lib.hid (CG.out _ h3)
      rw [← e] at CG1
      clear e HI HR HCS
      go_wp2_with fail
      refine CG1.out.mono ?_; rintro e w4 ⟨rfl, b4⟩
      go_wp2_with fail
      go_ret
      exact ⟨rfl, nx hbel b4⟩
/-- The table of sums. -/
def tbl (os : List Int) (a b : Nat) : List Int := tabT os (mems a) (mems b) (List.replicate (gn os) 0)


end Go.Proofs.Ytheeglaocflgmaa
