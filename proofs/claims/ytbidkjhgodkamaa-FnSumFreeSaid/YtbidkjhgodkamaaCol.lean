/-
Contracts of the colorings' tests: the program's colors and IsColoring, the reference's IsColoring. Conditions: lengths at most 2000000.
-/
import Derived.Test.YtbidkjhgodkamaaInts
namespace Go.Proofs.Ytbidkjhgodkamaa
open Go.RowKit Go.ChangeShapes

/-- All of xs lie from 0 to k - 1. -/
def allB (xs : List Int) (k : Int) : Bool := xs.all fun x => inB x 0 (k - 1)
theorem allB_take {xs : List Int} {k : Int} {i : Nat} (h : i < xs.length) (h1 : allB (xs.take i) k = true) (h2 : inB xs[i] 0 (k - 1) = true) : allB (xs.take (i + 1)) k = true := by
  unfold allB at *
  rw [List.take_succ_eq_append_getElem h, List.all_append, h1]
  simp [h2]
theorem allB_no {xs : List Int} {k : Int} {i : Nat} (h : i < xs.length) (h2 : inB xs[i] 0 (k - 1) = false) : allB xs k = false := by
  unfold allB
  rw [List.all_eq_false]
  exact ⟨xs[i], List.getElem_mem h, by simp [h2]⟩

set_option maxHeartbeats 800000 in
theorem colors_any (a0 : Option Addr) (c0 : Nat) (xs : List Int) (k most : Int) (w : World) (h0 : Ints w a0 c0 xs) (hl : xs.length ≤ 2000000) (hk : -1000 ≤ k) (hk' : k ≤ 1000) :
    Calls Try.prog 240 #[.slice a0 xs.length c0, .int .i64 k, .int .i64 most] w fun e w' => e = .returned (.bool (allB xs k && decide ((xs.length : Int) ≤ most))) ∧ w = w' := by
  obtain ⟨-, -, -, -, hcs⟩ := h0
  go_enter Try.func240, Try.ntmps240
  go_wp2_with fail
  go_loop [8, 11] (fun _ i => ∃ j : Nat, j ≤ xs.length ∧ i = .int .i64 j ∧ Hid (allB (xs.take j) k = true)) (fun _ i => xs.length - (intOf i).toNat)
  case atStart => exact ⟨0, Nat.zero_le _, rfl, rfl⟩
  case round =>
    obtain ⟨j, hj, rfl, H⟩ := hrel
    by_cases hlt : j < xs.length
    · rcases hcs with hcs | ⟨b, off, rfl, hbB, hcell⟩
      · subst hcs; simp at hlt
      · have hc := hcell j hlt
        obtain ⟨x, hx⟩ : ∃ x, x = xs[j]'hlt := ⟨_, rfl⟩
        rw [← hx] at hc
        have HX := Lib.hid hx
        clear hx hcell
        cases hin : inB x 0 (k - 1) with
        | true =>
          have HI := Lib.hid hin
          clear hin
          go_wp2_with (go_at_call 196; refine (within_is x 0 (k - 1) true HI.out _).mono ?_; rintro e w' ⟨rfl, rfl⟩)
          go_round
          case rel => exact ⟨j + 1, by omega, by go_num, allB_take hlt H.out (by rw [← HX.out]; exact HI.out)⟩
          case measure => simp [intOf]; omega
        | false =>
          have HI := Lib.hid hin
          clear hin
          go_wp2_with (go_at_call 196; refine (within_is x 0 (k - 1) false HI.out _).mono ?_; rintro e w' ⟨rfl, rfl⟩)
          go_ret
          exact ⟨ret_bool (by rw [allB_no hlt (by rw [← HX.out]; exact HI.out)]; rfl), rfl⟩
    · have hkn : j = xs.length := by omega
      clear hcs
      have e : allB xs k = true := by have := H.out; rw [hkn, List.take_length] at this; exact this
      have E := Lib.hid e
      clear e hkn
      go_wp2_with fail
      go_ret
      exact ⟨ret_bool (by rw [E.out, Bool.true_and]), rfl⟩

/-- What IsColoring says. -/
def colB (xs : List Int) (k : Int) : Bool := inB k 1 4 && (allB xs k && decide ((xs.length : Int) ≤ 40))

theorem isColoring_impl (a0 : Option Addr) (c0 : Nat) (xs : List Int) (k : Int) (w : World) (h0 : Ints w a0 c0 xs) (hl : xs.length ≤ 2000000) :
    Calls Try.prog 110 #[.slice a0 xs.length c0, .int .i64 k] w fun e w' => e = .returned (.bool (colB xs k)) ∧ w = w' := by
  cases hin : inB k 1 4 with
  | true =>
    obtain ⟨hk1, hk2⟩ := inB_true.1 hin
    have HI := Lib.hid hin
    clear hin
    go_enter Try.func110, Try.ntmps110
    go_wp2_with (first | (go_at_call 196; refine (within_is k 1 4 true HI.out _).mono ?_; rintro e w' ⟨rfl, rfl⟩) | (go_at_call 240; refine (colors_any a0 c0 xs k 40 _ h0 hl (by omega) (by omega)).mono ?_; rintro e w' ⟨rfl, rfl⟩))
    go_ret
    exact ⟨ret_bool (by unfold colB; rw [HI.out, Bool.true_and]), rfl⟩
  | false =>
    have HI := Lib.hid hin
    clear hin
    go_enter Try.func110, Try.ntmps110
    go_wp2_with (go_at_call 196; refine (within_is k 1 4 false HI.out _).mono ?_; rintro e w' ⟨rfl, rfl⟩)
    go_ret
    exact ⟨ret_bool (by unfold colB; rw [HI.out, Bool.false_and]), rfl⟩

set_option maxHeartbeats 800000 in
theorem isColoring_spec (a0 : Option Addr) (c0 : Nat) (xs : List Int) (k : Int) (w : World) (h0 : Ints w a0 c0 xs) (hl : xs.length ≤ 2000000) :
    Calls Try.prog 104 #[.slice a0 xs.length c0, .int .i64 k] w fun e w' => e = .returned (.bool (colB xs k)) ∧ w = w' := by
  obtain ⟨-, -, -, -, hcs⟩ := h0
  cases hin : inB k 1 4 with
  | false =>
    have HI := Lib.hid hin
    clear hin hcs
    go_enter Try.func104, Try.ntmps104
    go_wp2_with (go_at_call 202; refine (l1In_is k 1 4 false HI.out _).mono ?_; rintro e w' ⟨rfl, rfl⟩)
    go_ret
    exact ⟨ret_bool (by unfold colB; rw [HI.out, Bool.false_and]), rfl⟩
  | true =>
    obtain ⟨hk1, hk2⟩ := inB_true.1 hin
    have HI := Lib.hid hin
    clear hin
    by_cases h40 : 40 < xs.length
    · have hc40 : (40 : Int) < xs.length := by omega
      clear hcs
      go_enter Try.func104, Try.ntmps104
      go_wp2_with (go_at_call 202; refine (l1In_is k 1 4 true HI.out _).mono ?_; rintro e w' ⟨rfl, rfl⟩)
      go_ret
      exact ⟨ret_bool (by unfold colB; simp; omega), rfl⟩
    · have hc40 : (xs.length : Int) ≤ 40 := by omega
      go_enter Try.func104, Try.ntmps104
      go_wp2_with (go_at_call 202; refine (l1In_is k 1 4 true HI.out _).mono ?_; rintro e w' ⟨rfl, rfl⟩)
      go_loop [5] (fun i => ∃ j : Nat, j ≤ xs.length ∧ i = .int .i64 j ∧ Hid (allB (xs.take j) k = true)) (fun i => xs.length - (intOf i).toNat)
      case atStart => exact ⟨0, Nat.zero_le _, rfl, rfl⟩
      case round =>
        obtain ⟨j, hj, rfl, H⟩ := hrel
        by_cases hlt : j < xs.length
        · rcases hcs with hcs | ⟨b, off, rfl, hbB, hcell⟩
          · subst hcs; simp at hlt
          · have hc := hcell j hlt
            obtain ⟨x, hx⟩ : ∃ x, x = xs[j]'hlt := ⟨_, rfl⟩
            rw [← hx] at hc
            have HX := Lib.hid hx
            clear hx hcell
            cases hin : inB x 0 (k - 1) with
            | true =>
              have HI' := Lib.hid hin
              clear hin
              go_wp2_with (go_at_call 202; refine (l1In_is x 0 (k - 1) true HI'.out _).mono ?_; rintro e w' ⟨rfl, rfl⟩)
              go_round
              case rel => exact ⟨j + 1, by omega, by go_num, allB_take hlt H.out (by rw [← HX.out]; exact HI'.out)⟩
              case measure => simp [intOf]; omega
            | false =>
              have HI' := Lib.hid hin
              clear hin
              go_wp2_with (go_at_call 202; refine (l1In_is x 0 (k - 1) false HI'.out _).mono ?_; rintro e w' ⟨rfl, rfl⟩)
              go_ret
              exact ⟨ret_bool (by unfold colB; rw [allB_no hlt (by rw [← HX.out]; exact HI'.out)]; simp), rfl⟩
        · have hkn : j = xs.length := by omega
          clear hcs
          have e : allB xs k = true := by have := H.out; rw [hkn, List.take_length] at this; exact this
          have E := Lib.hid e
          clear e hkn
          go_wp2_with fail
          go_ret
          exact ⟨ret_bool (by unfold colB; rw [E.out, HI.out]; simp; omega), rfl⟩
end Go.Proofs.Ytbidkjhgodkamaa
