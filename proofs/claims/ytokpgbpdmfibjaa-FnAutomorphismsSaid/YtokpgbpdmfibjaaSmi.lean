/-
The great laws' own helpers: whether a code is too long, whether two lists are the same. Conditions: lengths at most 2000000.
-/
import Derived.Test.YtokpgbpdmfibjaaDrw
import Derived.Test.YtokpgbpdmfibjaaHelp
namespace Go.Proofs.Ytokpgbpdmfibjaa
open Go.RowKit Go.ChangeShapes
set_option linter.unusedVariables false

theorem take_eq_stepS {xs ys : List Int} {k : Nat} (h1 : k < xs.length) (h2 : k < ys.length) (h : xs.take k = ys.take k) (e : xs[k] = ys[k]) : xs.take (k + 1) = ys.take (k + 1) := by
  rw [take_snoc' xs k h1, take_snoc' ys k h2, h, e]
set_option maxHeartbeats 800000 in
theorem sameInts_any (a0 a1 : Option Addr) (c0 c1 : Nat) (xs ys : List Int) (w : World) (h0 : Ints w a0 c0 xs) (h1 : Ints w a1 c1 ys) (hl : xs.length ≤ 2000000) (hl' : ys.length ≤ 2000000) :
    Calls Try.prog 39 #[.slice a0 xs.length c0, .slice a1 ys.length c1] w fun e w' => e = .returned (.bool (decide (xs = ys))) ∧ Below w.heap.size w w' := by
  obtain ⟨-, -, -, -, hcs⟩ := h0
  obtain ⟨-, -, -, -, hcs'⟩ := h1
  by_cases hlen : (xs.length : Int) = ys.length
  · have H0 := Lib.hid hcs
    have H1 := Lib.hid hcs'
    have HL := Lib.hid hlen
    have hne : ((xs.length : Int) != ys.length) = false := by simp; omega
    clear hcs hcs' hlen
    go_enter Try.func39, Try.ntmps39
    go_wp2
    go_loopw [5] (fun i wr => ∃ k : Nat, k ≤ xs.length ∧ i = .int .i64 k ∧ Hid (xs.take k = ys.take k) ∧ Below w.heap.size w wr) (fun i _ => xs.length - (intOf i).toNat)
    case atStart => exact ⟨0, Nat.zero_le _, rfl, by simp [Hid], Below.refl _ _⟩
    case round =>
      obtain ⟨k, hk, rfl, HT, hbel⟩ := hrel
      have hn := HL.out
      by_cases hlt : k < xs.length
      · have hlt' : k < ys.length := by omega
        clear hn
        have H0' := H0.out
        have H1' := H1.out
        rcases H0' with hcs | ⟨b, off, rfl, hbB, hcell⟩
        · subst hcs; simp at hlt
        rcases H1' with hcs | ⟨b', off', rfl, hbB', hcell'⟩
        · subst hcs; simp at hlt'
        have hc : wr.cell? ⟨b, off + k, none⟩ = some (.int .i64 (xs[k]'hlt)) := (hbel.cell (p := ⟨b, off + k, none⟩) hbB).trans (hcell k hlt)
        have hc' : wr.cell? ⟨b', off' + k, none⟩ = some (.int .i64 (ys[k]'hlt')) := (hbel.cell (p := ⟨b', off' + k, none⟩) hbB').trans (hcell' k hlt')
        obtain ⟨x, hx⟩ : ∃ x, x = xs[k]'hlt := ⟨_, rfl⟩
        obtain ⟨y, hy⟩ : ∃ y, y = ys[k]'hlt' := ⟨_, rfl⟩
        rw [← hx] at hc
        rw [← hy] at hc'
        have HX := Lib.hid hx
        have HY := Lib.hid hy
        clear hx hy hcell hcell' H0 H1
        have hi1 : (k : Int) < (xs.length : Int) := by omega
        have hi2 : (k : Int) < (ys.length : Int) := by omega
        by_cases hxy : x = y
        · subst hxy
          go_wp2
          go_quiet (fail)
          go_wp2
          go_roundw
          case rel => exact ⟨k + 1, by omega, by go_num, take_eq_stepS hlt hlt' HT.out (HX.out.symm.trans HY.out), below_drewN hbel _⟩
          case measure => simp [intOf]; omega
        · have hb : (x != y) = true := by simpa using hxy
          have HXY := Lib.hid hxy
          clear hxy
          go_wp2
          go_quiet (fail)
          go_wp2
          go_ret
          refine ⟨ret_bool ?_, below_drewN hbel _⟩
          symm
          rw [decide_eq_false_iff_not]
          intro e
          subst e
          exact HXY.out (HX.out.trans HY.out.symm)
      · have hkn : k = xs.length := by omega
        have e : xs = ys := by
          have := HT.out
          rw [List.take_of_length_le (by omega), List.take_of_length_le (by omega)] at this
          exact this
        clear hn hkn
        have HE := Lib.hid e
        clear e
        go_wp2
        go_ret
        exact ⟨ret_bool (by simp [HE.out]), hbel⟩
  · have hne : ((xs.length : Int) != ys.length) = true := by simp; omega
    have HL := Lib.hid hlen
    clear hlen
    go_enter Try.func39, Try.ntmps39
    go_wp2
    go_ret
    refine ⟨ret_bool ?_, Below.refl _ _⟩
    symm
    rw [decide_eq_false_iff_not]
    intro e
    subst e
    exact HL.out rfl

set_option maxHeartbeats 800000 in
theorem big_any (a : Option Addr) (cap n : Nat) (w : World) :
    Calls Try.prog 6 #[.slice a n cap] w fun e w' => e = .returned (.bool (decide (1048576 < n))) ∧ Below w.heap.size w w' := by
  go_enter Try.func6, Try.ntmps6
  go_wp2_with fail
  go_ret
  exact ⟨ret_bool (by rw [Bool.eq_iff_iff]; simp; omega), Below.refl _ _⟩
end Go.Proofs.Ytokpgbpdmfibjaa
