/-
Contracts of the laws' own helpers on slices of integers: copying, comparing, marking, reading marks. Conditions: lengths at most 2000000.
-/
import Derived.Test.YtheeglaocflgmaaInts
import Derived.Deep.QuietTactic
import Derived.BigQuiet
namespace Go.Proofs.Ytheeglaocflgmaa
open Go.RowKit Go.ChangeShapes

theorem take_snoc' (xs : List Int) (k : Nat) (h : k < xs.length) : xs.take (k + 1) = xs.take k ++ [xs[k]] := by
  rw [List.take_succ_eq_append_getElem h]

theorem set_mk (xs : List Int) (k : Nat) (hk : k < xs.length) :
    (((xs.take k) ++ List.replicate (xs.length - k) 0).map (Value.int .i64)).set k (.int .i64 xs[k]) = ((xs.take (k + 1)) ++ List.replicate (xs.length - (k + 1)) 0).map (Value.int .i64) := by
  rw [← List.map_set]
  congr 1
  rw [List.set_append_right _ _ (by simp; omega)]
  rw [show xs.length - k = (xs.length - (k + 1)) + 1 by omega, List.replicate_succ]
  simp only [List.length_take, show k - min k xs.length = 0 by omega, List.set_cons_zero]
  rw [take_snoc' xs k hk, List.append_assoc]
  rfl

set_option maxHeartbeats 800000 in
theorem toIntS_any (a0 : Option Addr) (c0 : Nat) (xs : List Int) (w : World) (h0 : Ints w a0 c0 xs) (hl : xs.length ≤ 2000000) :
    Calls Try.prog 25 #[.slice a0 xs.length c0] w (GaveI w xs) := by
  obtain ⟨i0, hi, hz0, hz1, hz2⟩ := info_parts infoI
  obtain ⟨hc1, hc2, hc3, hwf, hcs⟩ := h0
  have HW := Lib.hid hwf
  clear hwf hc1 hc2 hc3
  go_enter Try.func25, Try.ntmps25
  go_wp2_with (at_make; refine wpList_make_full _ rfl _ _ 26 rfl w.heap.size 3 i0 (.int .i64 0) 1 Try.underlying26 hi hz0 hz1 .i64 .i64 _ _ xs.length rfl rfl rfl rfl ?c1 ?c2 ?c3 ?_)
  case c1 => (try rw [hz2]); omega
  case c2 => unfold maxLen; omega
  case c3 => exact Nat.le_refl _
  intro w1 hown1 hgrow1
  have hb1 : Below w.heap.size w w1 := (Below.refl _ _).grown hgrow1 (Nat.le_refl _) (fun k h => by cases h)
  have hown0 : w1.ownsRow w.heap.size 3 1 (.slice (some ⟨w.heap.size, 0, none⟩) xs.length xs.length) xs.length (((xs.take 0) ++ List.replicate (xs.length - 0) 0).map (.int .i64)) := by
    simpa [Value.cells, toList_madeCells_one] using hown1
  clear hown1 hgrow1
  go_wp2
  go_loopw [4] (fun i wr => ∃ k : Nat, k ≤ xs.length ∧ i = .int .i64 k ∧ wr.ownsRow w.heap.size 3 1 (.slice (some ⟨w.heap.size, 0, none⟩) xs.length xs.length) xs.length (((xs.take k) ++ List.replicate (xs.length - k) 0).map (.int .i64)) ∧ Below w.heap.size w wr) (fun i _ => xs.length - (intOf i).toNat)
  case atStart => exact ⟨0, Nat.zero_le _, rfl, hown0, hb1⟩
  case round =>
    obtain ⟨k, hk, rfl, hown, hbel⟩ := hrel
    clear hown0 hb1
    by_cases hlt : k < xs.length
    · rcases hcs with hcs | ⟨b, off, rfl, hbB, hcell⟩
      · subst hcs; simp at hlt
      · have hc : wr.cell? ⟨b, off + k, none⟩ = some (.int .i64 (xs[k]'hlt)) := (hbel.cell (p := ⟨b, off + k, none⟩) hbB).trans (hcell k hlt)
        have hfr : wr.frozen? ⟨w.heap.size, k, none⟩ = false := hown.frozenAt k
        have hst := (hown.stored k (.int .i64 (xs[k]'hlt))).1
        rw [set_mk xs k hlt] at hst
        obtain ⟨v, hv⟩ : ∃ v, wr.cell? ⟨w.heap.size, k, none⟩ = some v := ⟨_, (hown.cellAt k (by omega)).trans (List.getElem?_eq_getElem (by rw [hown.1]; omega))⟩
        obtain ⟨y, hy⟩ : ∃ y, y = xs[k]'hlt := ⟨_, rfl⟩
        rw [← hy] at hc hst
        clear hy hcell
        have HO := Lib.hid hown
        have HS := Lib.hid hst
        clear hown hst
        go_wp2
        go_roundw
        case rel => exact ⟨k + 1, by omega, by go_num, HS.out, hbel.setCell (by simp) _⟩
        case measure => simp [intOf]; omega
    · have hkn : k = xs.length := by omega
      have hx : xs.take k ++ List.replicate (xs.length - k) 0 = xs := by simp [hkn]
      rw [hx] at hown
      have HO := Lib.hid hown
      clear hcs hx hown hkn
      go_wp2
      go_ret
      exact ⟨_, _, rfl, ⟨HW.out, HO.out⟩, hbel⟩

theorem take_eq_step {xs ys : List Int} {k : Nat} (h1 : k < xs.length) (h2 : k < ys.length) (h : xs.take k = ys.take k) (e : xs[k] = ys[k]) : xs.take (k + 1) = ys.take (k + 1) := by
  rw [take_snoc' xs k h1, take_snoc' ys k h2, h, e]

set_option maxHeartbeats 800000 in
theorem eqIntS_any (a0 a1 : Option Addr) (c0 c1 : Nat) (xs ys : List Int) (w : World) (h0 : Ints w a0 c0 xs) (h1 : Ints w a1 c1 ys) (hl : xs.length ≤ 2000000) (hl' : ys.length ≤ 2000000) :
    Calls Try.prog 21 #[.slice a0 xs.length c0, .slice a1 ys.length c1] w fun e w' => e = .returned (.bool (decide (xs = ys))) ∧ Below w.heap.size w w' := by
  obtain ⟨-, -, -, -, hcs⟩ := h0
  obtain ⟨-, -, -, -, hcs'⟩ := h1
  by_cases hlen : (xs.length : Int) = ys.length
  · have H0 := Lib.hid hcs
    have H1 := Lib.hid hcs'
    have HL := Lib.hid hlen
    have hne : ((xs.length : Int) != ys.length) = false := by simp; omega
    clear hcs hcs' hlen
    go_enter Try.func21, Try.ntmps21
    go_wp2
    go_loopw [5] (fun i wr => ∃ k : Nat, k ≤ xs.length ∧ i = .int .i64 k ∧ Hid (xs.take k = ys.take k) ∧ Below w.heap.size w wr) (fun i _ => xs.length - (intOf i).toNat)
    case atStart => exact ⟨0, Nat.zero_le _, rfl, by simp [Hid], Below.refl _ _⟩
    case round =>
      obtain ⟨k, hk, rfl, HT, hbel⟩ := hrel
      have hn := HL.out
      by_cases hlt : k < xs.length
      · have hlt' : k < ys.length := by omega
        clear hn
        have H0' := H0.out
        have H1' := H1.out
        rcases H0' with hcs | ⟨b, off, rfl, hbB, hcell⟩
        · subst hcs; simp at hlt
        rcases H1' with hcs | ⟨b', off', rfl, hbB', hcell'⟩
        · subst hcs; simp at hlt'
        have hc : wr.cell? ⟨b, off + k, none⟩ = some (.int .i64 (xs[k]'hlt)) := (hbel.cell (p := ⟨b, off + k, none⟩) hbB).trans (hcell k hlt)
        have hc' : wr.cell? ⟨b', off' + k, none⟩ = some (.int .i64 (ys[k]'hlt')) := (hbel.cell (p := ⟨b', off' + k, none⟩) hbB').trans (hcell' k hlt')
        obtain ⟨x, hx⟩ : ∃ x, x = xs[k]'hlt := ⟨_, rfl⟩
        obtain ⟨y, hy⟩ : ∃ y, y = ys[k]'hlt' := ⟨_, rfl⟩
        rw [← hx] at hc
        rw [← hy] at hc'
        have HX := Lib.hid hx
        have HY := Lib.hid hy
        clear hx hy hcell hcell' H0 H1
        have hi1 : (k : Int) < (xs.length : Int) := by omega
        have hi2 : (k : Int) < (ys.length : Int) := by omega
        by_cases hxy : x = y
        · subst hxy
          go_wp2
          go_quiet (fail)
          go_wp2
          go_roundw
          case rel => exact ⟨k + 1, by omega, by go_num, take_eq_step hlt hlt' HT.out (HX.out.symm.trans HY.out), below_drewN hbel _⟩
          case measure => simp [intOf]; omega
        · have hb : (x != y) = true := by simpa using hxy
          have HXY := Lib.hid hxy
          clear hxy
          go_wp2
          go_quiet (fail)
          go_wp2
          go_ret
          refine ⟨ret_bool ?_, below_drewN hbel _⟩
          symm
          rw [decide_eq_false_iff_not]
          intro e
          subst e
          exact HXY.out (HX.out.trans HY.out.symm)
      · have hkn : k = xs.length := by omega
        have e : xs = ys := by
          have := HT.out
          rw [List.take_of_length_le (by omega), List.take_of_length_le (by omega)] at this
          exact this
        clear hn hkn
        have HE := Lib.hid e
        clear e
        go_wp2
        go_ret
        exact ⟨ret_bool (by simp [HE.out]), hbel⟩
  · have hne : ((xs.length : Int) != ys.length) = true := by simp; omega
    have HL := Lib.hid hlen
    clear hlen
    go_enter Try.func21, Try.ntmps21
    go_wp2
    go_ret
    refine ⟨ret_bool ?_, Below.refl _ _⟩
    symm
    rw [decide_eq_false_iff_not]
    intro e
    subst e
    exact HL.out rfl

theorem eqIntS_refl (a0 a1 : Option Addr) (c0 c1 : Nat) (xs : List Int) (w : World) (h0 : Ints w a0 c0 xs) (h1 : Ints w a1 c1 xs) (hl : xs.length ≤ 2000000) :
    Calls Try.prog 21 #[.slice a0 xs.length c0, .slice a1 xs.length c1] w fun e w' => e = .returned (.bool true) ∧ Below w.heap.size w w' := by
  have h := eqIntS_any a0 a1 c0 c1 xs xs w h0 h1 hl hl
  rwa [show decide (xs = xs) = true by simp] at h

/-- The marks k, k + 1, .. over n places. -/
def marks (k : Int) (n : Nat) : List Int := (List.range n).map fun i : Nat => k + (i : Int)
/-- Another list of the call's own is kept behind the marking. -/
theorem OwnI.kept {w w' : World} {B : Nat} {a a0 : Option Addr} {c : Nat} {xs : List Int} (h : OwnI w B a c xs) (hg : w.grownBy w' (a0.map (·.block))) (hne : ∀ x y, a = some x → a0 = some y → x.block ≠ y.block) : OwnI w' B a c xs := by
  refine ⟨h.1, h.2.kept hg ?_⟩
  cases a with
  | none => exact .inl rfl
  | some x =>
    right
    cases a0 with
    | none => simp [Value.ownBlock]
    | some y => simpa [Value.ownBlock] using hne x y rfl rfl
theorem marks_len (k : Int) (n : Nat) : (marks k n).length = n := by simp [marks]
theorem marks_succ (k : Int) (n : Nat) : marks k (n + 1) = marks k n ++ [k + n] := by simp [marks, List.range_succ]
theorem marks_get (k : Int) (n i : Nat) (h : i < (marks k n).length) : (marks k n)[i] = k + i := by simp [marks]
theorem marks_wf (k : Int) (n : Nat) (h0 : 0 ≤ k) (h1 : k ≤ 2000000) (h2 : n ≤ 2000000) : ∀ x ∈ marks k n, (Lit.int .i64 x).wf = true := by
  intro x hx
  simp [marks] at hx
  obtain ⟨i, hi, rfl⟩ := hx
  exact wf_of (by omega) (by omega)

theorem set_marks (xs : List Int) (m : Int) (k : Nat) (hk : k < xs.length) :
    (((marks m k) ++ xs.drop k).map (Value.int .i64)).set k (.int .i64 (m + k)) = ((marks m (k + 1)) ++ xs.drop (k + 1)).map (Value.int .i64) := by
  rw [← List.map_set]
  congr 1
  rw [List.set_append_right _ _ (by simp [marks_len])]
  rw [List.drop_eq_getElem_cons hk]
  simp only [marks_len, Nat.sub_self, List.set_cons_zero]
  rw [marks_succ]
  simp

set_option maxHeartbeats 800000 in
/-- Marking a list of the call's own: it then holds the marks. -/
theorem markIntS_any (B : Nat) (a0 : Option Addr) (c0 : Nat) (xs : List Int) (m : Int) (w : World) (h0 : OwnI w B a0 c0 xs) (hB : B ≤ w.heap.size) (hl : xs.length ≤ 2000000) (hm0 : 0 ≤ m) (hm : m ≤ 2000000) :
    Calls Try.prog 22 #[.slice a0 xs.length c0, .int .i64 m] w fun e w' =>
      e = .returned (.int .i64 (m + xs.length)) ∧ OwnI w' B a0 c0 (marks m xs.length) ∧ Below B w w' ∧ w.grownBy w' (a0.map (·.block)) := by
  have hob := h0.ownBlock (n := xs.length)
  have HOB := Lib.hid hob
  clear hob
  obtain ⟨hwf, hown⟩ := h0
  have hnil := hown.2
  go_enter Try.func22, Try.ntmps22
  go_wp2
  go_loopw [1, 5] (fun c i wr => ∃ k : Nat, k ≤ xs.length ∧ i = .int .i64 k ∧ c = .int .i64 (m + k) ∧ wr.ownsRow B 3 1 (.slice a0 xs.length c0) xs.length (((marks m k) ++ xs.drop k).map (.int .i64)) ∧ w.grownBy wr (a0.map (·.block))) (fun _ i _ => xs.length - (intOf i).toNat)
  case atStart => exact ⟨0, Nat.zero_le _, rfl, by simp, by simpa [marks] using hown, World.grownBy.refl _ _⟩
  case round =>
    obtain ⟨k, hk, rfl, rfl, hown', hg⟩ := hrel
    clear hown
    by_cases hlt : k < xs.length
    · rcases hnil with ⟨hv, hn⟩ | ⟨g, cap, cur, hv, _⟩
      · omega
      · simp only [Value.slice.injEq, true_and] at hv
        obtain ⟨rfl, rfl⟩ := hv
        have hfr : wr.frozen? ⟨g, k, none⟩ = false := hown'.frozenAt k
        have hst := hown'.stored k (.int .i64 (m + k))
        rw [set_marks xs m k hlt] at hst
        obtain ⟨v, hv⟩ : ∃ v, wr.cell? ⟨g, k, none⟩ = some v := ⟨_, (hown'.cellAt k (by omega)).trans (List.getElem?_eq_getElem (by rw [hown'.1]; omega))⟩
        have HO := Lib.hid hown'
        have HS := Lib.hid hst
        clear hown' hst
        go_wp2
        go_roundw
        case rel =>
          refine ⟨k + 1, by omega, by go_num, by go_num, HS.out.1, ?_⟩
          have hg2 := HS.out.2
          exact ⟨hg2.os.trans hg.os, hg2.tape.trans hg.tape, hg2.output.trans hg.output, Nat.le_trans hg.size hg2.size, fun i hi hne => (hg2.block i (by have := hg.size; omega) hne).trans (hg.block i hi hne)⟩
        case measure => simp [intOf]; omega
    · have hkn : k = xs.length := by omega
      subst hkn
      have HO := Lib.hid hown'
      clear hown'
      go_wp2
      go_ret
      refine ⟨rfl, ⟨marks_wf m _ hm0 hm hl, ?_⟩, (Below.refl _ _).grown hg hB (fun q hq => HOB.out q (by cases a0 with | none => simp at hq | some x => simpa [Value.ownBlock] using hq)), hg⟩
      have := HO.out
      rw [List.drop_length, List.append_nil] at this
      rw [marks_len]
      exact this

set_option maxHeartbeats 800000 in
/-- Reading the marks: they are there. -/
theorem heldIntS_any (a0 : Option Addr) (c0 : Nat) (m : Int) (n : Nat) (w : World) (h0 : Ints w a0 c0 (marks m n)) (hl : n ≤ 2000000) (hm0 : 0 ≤ m) (hm : m ≤ 2000000) :
    Calls Try.prog 23 #[.slice a0 n c0, .int .i64 m] w fun e w' => e = .returned (.int .i64 (m + n)) ∧ Below w.heap.size w w' := by
  obtain ⟨-, -, -, -, hcs⟩ := h0
  go_enter Try.func23, Try.ntmps23
  go_wp2
  go_loop [1, 5] (fun c i => ∃ k : Nat, k ≤ n ∧ i = .int .i64 k ∧ c = .int .i64 (m + k)) (fun _ i => n - (intOf i).toNat)
  case atStart => exact ⟨0, Nat.zero_le _, rfl, by simp⟩
  case round =>
    obtain ⟨k, hk, rfl, rfl⟩ := hrel
    by_cases hlt : k < n
    · rcases hcs with hcs | ⟨b, off, rfl, hbB, hcell⟩
      · have := congrArg List.length hcs; rw [marks_len] at this; simp at this; omega
      · have hc := hcell k (by rw [marks_len]; exact hlt)
        rw [marks_get] at hc
        clear hcell
        go_wp2
        go_round
        case rel => exact ⟨k + 1, by omega, by go_num, by go_num⟩
        case measure => simp [intOf]; omega
    · have hkn : k = n := by omega
      subst hkn
      clear hcs
      go_wp2
      go_ret
      exact ⟨rfl, Below.refl _ _⟩
end Go.Proofs.Ytheeglaocflgmaa
