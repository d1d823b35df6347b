/-
Contracts of isEquation and l25Fine: 2 to 4 coefficients from -9 to 9, none of them 0. Conditions: lengths at most 2000000.
-/
import Derived.Test.YtokpgbpdmfibjaaMem
import Derived.Test.YtokpgbpdmfibjaaHelp
namespace Go.Proofs.Ytokpgbpdmfibjaa
open Go.RowKit Go.ChangeShapes

def okc (x : Int) : Bool := !(x == 0) && inB x (-9) 9
def allc (xs : List Int) : Bool := xs.all okc
def eqnB (xs : List Int) : Bool := allc xs && inB xs.length 2 4
theorem allc_no {xs : List Int} {k : Nat} (hk : k < xs.length) (hx : okc xs[k] = false) : allc xs = false := by
  unfold allc
  rw [List.all_eq_false]
  exact ⟨xs[k], List.getElem_mem hk, by simp [hx]⟩
theorem allc_snoc {xs : List Int} {k : Nat} (hk : k < xs.length) (h : allc (xs.take k) = true) (hx : okc xs[k] = true) : allc (xs.take (k + 1)) = true := by
  unfold allc at *
  rw [take_snoc' xs k hk, List.all_append, h]; simp [hx]
theorem eqn_no {xs : List Int} {k : Nat} (hk : k < xs.length) (hx : okc xs[k] = false) : eqnB xs = false := by
  simp [eqnB, allc_no hk hx]
theorem eqn_parts {xs : List Int} (h : eqnB xs = true) : 2 ≤ xs.length ∧ xs.length ≤ 4 ∧ ∀ i (hi : i < xs.length), -9 ≤ xs[i] ∧ xs[i] ≤ 9 ∧ xs[i] ≠ 0 := by
  simp only [eqnB, allc, Bool.and_eq_true, List.all_eq_true] at h
  obtain ⟨h1, h2⟩ := h
  obtain ⟨h3, h4⟩ := inB_true.1 h2
  refine ⟨by omega, by omega, fun i hi => ?_⟩
  have := h1 _ (List.getElem_mem hi)
  simp only [okc, Bool.and_eq_true, Bool.not_eq_true', beq_eq_false_iff_ne] at this
  obtain ⟨h5, h6⟩ := inB_true.1 this.2
  exact ⟨h5, h6, this.1⟩

set_option maxHeartbeats 1600000 in
theorem fine_any (a0 : Option Addr) (c0 : Nat) (xs : List Int) (w : World) (h0 : Ints w a0 c0 xs) (hl : xs.length ≤ 2000000) :
    Calls Try.prog 112 #[.slice a0 xs.length c0] w fun e w' => e = .returned (.bool (eqnB xs)) ∧ w = w' := by
  obtain ⟨-, -, -, -, hcs⟩ := h0
  have HC := Lib.hid hcs
  obtain ⟨r, hr⟩ : ∃ r, r = eqnB xs := ⟨_, rfl⟩
  have HR := Lib.hid hr
  rw [← hr]
  clear hr hcs
  go_enter Try.func112, Try.ntmps112
  go_wp2_with fail
  go_loop [3] (fun i => ∃ k : Nat, k ≤ xs.length ∧ i = .int .i64 k ∧ Hid (allc (xs.take k) = true)) (fun i => xs.length - (intOf i).toNat)
  case atStart => exact ⟨0, by omega, rfl, Lib.hid (by simp [allc])⟩
  case round =>
    obtain ⟨k, hk, rfl, HO⟩ := hrel
    by_cases hlt : k < xs.length
    · rcases HC.out with hcs | ⟨b, off, rfl, hbB, hcell⟩
      · subst hcs; simp at hlt
      · have c1 := hcell k hlt
        have hsn := Lib.hid (fun h => allc_snoc hlt HO.out h)
        have hno := Lib.hid (fun h => eqn_no hlt h)
        obtain ⟨x, hx⟩ : ∃ x, x = xs[k] := ⟨_, rfl⟩
        rw [← hx] at c1 hsn hno
        cases hin : inB x (-9) 9 with
        | false =>
          have e : r = false := by rw [HR.out]; exact hno.out (by simp [okc, hin])
          subst e
          have HI := Lib.hid hin
          clear hin hx HR HC HO hcell hno hsn
          go_wp2_with (go_at_call 105; refine (l1In_is x (-9) 9 false HI.out _).mono ?_; rintro e w' ⟨rfl, rfl⟩)
          go_ret
          exact ⟨rfl, rfl⟩
        | true =>
          have HI := Lib.hid hin
          by_cases hz : x = 0
          · have e : r = false := by rw [HR.out]; exact hno.out (by simp [okc, hz])
            subst e
            clear hin hx HR HC HO hcell hno hsn
            subst hz
            go_wp2_with (go_at_call 105; refine (l1In_is 0 (-9) 9 true HI.out _).mono ?_; rintro e w' ⟨rfl, rfl⟩)
            go_ret
            exact ⟨rfl, rfl⟩
          · have HN := Lib.hid (hsn.out (by simp [okc, hin, hz]))
            clear hin hx hno hsn HO hcell
            go_wp2_with (go_at_call 105; refine (l1In_is x (-9) 9 true HI.out _).mono ?_; rintro e w' ⟨rfl, rfl⟩)
            go_round
            case rel => exact ⟨k + 1, by omega, by go_num, HN⟩
            case measure => simp [intOf]; omega
    · obtain rfl : k = xs.length := by omega
      rw [List.take_length] at *
      have e : inB (xs.length : Int) 2 4 = r := by rw [HR.out]; simp only [eqnB]; rw [HO.out]; simp
      have HE := Lib.hid e
      clear e HR HC HO
      go_wp2_with (go_at_call 105; refine (l1In_is _ 2 4 r HE.out _).mono ?_; rintro e w' ⟨rfl, rfl⟩)
      go_ret
      exact ⟨rfl, rfl⟩

set_option maxHeartbeats 1600000 in
theorem isEqn_any (a0 : Option Addr) (c0 : Nat) (xs : List Int) (w : World) (h0 : Ints w a0 c0 xs) (hl : xs.length ≤ 2000000) :
    Calls Try.prog 108 #[.slice a0 xs.length c0] w fun e w' => e = .returned (.bool (eqnB xs)) ∧ w = w' := by
  obtain ⟨-, -, -, -, hcs⟩ := h0
  have HC := Lib.hid hcs
  obtain ⟨r, hr⟩ : ∃ r, r = eqnB xs := ⟨_, rfl⟩
  have HR := Lib.hid hr
  rw [← hr]
  clear hr hcs
  go_enter Try.func108, Try.ntmps108
  go_wp2_with fail
  go_loop [7] (fun i => ∃ k : Nat, k ≤ xs.length ∧ i = .int .i64 k ∧ Hid (allc (xs.take k) = true)) (fun i => xs.length - (intOf i).toNat)
  case atStart => exact ⟨0, by omega, rfl, Lib.hid (by simp [allc])⟩
  case round =>
    obtain ⟨k, hk, rfl, HO⟩ := hrel
    by_cases hlt : k < xs.length
    · rcases HC.out with hcs | ⟨b, off, rfl, hbB, hcell⟩
      · subst hcs; simp at hlt
      · have c1 := hcell k hlt
        have hsn := Lib.hid (fun h => allc_snoc hlt HO.out h)
        have hno := Lib.hid (fun h => eqn_no hlt h)
        obtain ⟨x, hx⟩ : ∃ x, x = xs[k] := ⟨_, rfl⟩
        rw [← hx] at c1 hsn hno
        by_cases hz : x = 0
        · have e : r = false := by rw [HR.out]; exact hno.out (by simp [okc, hz])
          subst e
          clear hx HR HC HO hcell hno hsn
          subst hz
          go_wp2_with fail
          go_ret
          exact ⟨rfl, rfl⟩
        · cases hin : inB x (-9) 9 with
          | false =>
            have e : r = false := by rw [HR.out]; exact hno.out (by simp [okc, hin])
            subst e
            have HI := Lib.hid hin
            clear hin hx HR HC HO hcell hno hsn
            go_wp2_with (go_at_call 103; refine (within_is x (-9) 9 false HI.out _).mono ?_; rintro e w' ⟨rfl, rfl⟩)
            go_ret
            exact ⟨rfl, rfl⟩
          | true =>
            have HI := Lib.hid hin
            have HN := Lib.hid (hsn.out (by simp [okc, hin, hz]))
            clear hin hx hno hsn HO hcell
            go_wp2_with (go_at_call 103; refine (within_is x (-9) 9 true HI.out _).mono ?_; rintro e w' ⟨rfl, rfl⟩)
            go_round
            case rel => exact ⟨k + 1, by omega, by go_num, HN⟩
            case measure => simp [intOf]; omega
    · obtain rfl : k = xs.length := by omega
      rw [List.take_length] at *
      have e : inB (xs.length : Int) 2 4 = r := by rw [HR.out]; simp only [eqnB]; rw [HO.out]; simp
      have HE := Lib.hid e
      clear e HR HC HO
      go_wp2_with (go_at_call 103; refine (within_is _ 2 4 r HE.out _).mono ?_; rintro e w' ⟨rfl, rfl⟩)
      go_ret
      exact ⟨rfl, rfl⟩
end Go.Proofs.Ytokpgbpdmfibjaa
