/-
The program's SidonBound returns what the reference's returns, for all arguments. No condition.
-/
import Derived.Test.YtbidkjhgodkamaaGrp
import Derived.Deep.RegionHeld3
namespace Go.Proofs.Ytbidkjhgodkamaa
open Go.ChangeShapes Go.RowKit

def sbB (os : List Int) (n : Int) : Bool := grpB os && (inB n 0 100 && decide (n * (n - 1) ≤ gord os - 1))

theorem sq_bd {n : Int} (h0 : 0 ≤ n) (h1 : n ≤ 100) : -100 ≤ n * (n - 1) ∧ n * (n - 1) ≤ 10000 := by
  have h2 : n * n ≤ 100 * 100 := Int.mul_le_mul (by omega) (by omega) (by omega) (by omega)
  have h3 : 0 ≤ n * n := Int.mul_nonneg h0 h0
  rw [Int.mul_sub, Int.mul_one]
  omega

set_option maxHeartbeats 800000 in
theorem sb_impl (a0 : Option Addr) (c0 : Nat) (os : List Int) (n : Int) (w : World) (h0 : Ints w a0 c0 os) (hl : os.length ≤ 2000000) :
    Calls Try.prog 36 #[.agg #[.slice a0 os.length c0], .int .i64 n] w fun e w' => e = .returned (.bool (sbB os n)) ∧ Below w.heap.size w w' := by
  have hb0 := (Below.refl w.heap.size w).alloc (Nat.le_refl _) (.cells #[.slice a0 os.length c0] 26)
  have h1 := h0.below hb0 (Nat.le_refl _)
  have C := Lib.hid (fun w h => isGroup_impl a0 c0 os w h hl)
  have C2 := Lib.hid (fun w h => orderOf_impl a0 c0 os w h hl)
  unfold sbB
  cases hg0 : grpB os with
  | false =>
    rw [hg0] at C
    clear hg0 C2
    go_enter Try.func36, Try.ntmps36
    go_wp2_with fail
    refine (C.out _ h1).mono ?_; rintro e w1 ⟨rfl, b1⟩
    go_wp2_with fail
    go_ret
    exact ⟨rfl, nx hb0 b1⟩
  | true =>
    have e : ordV os = gord os := by simp [ordV, hg0]
    obtain ⟨g1, g2, g3, g4⟩ := grp_parts hg0
    rw [hg0] at C
    rw [e] at C2
    obtain ⟨r, hr⟩ : ∃ r, r = gord os := ⟨_, rfl⟩
    rw [← hr] at C2 g3 g4 ⊢
    clear hr e hg0 g2
    cases hin : inB n 0 100 with
    | false =>
      have HI := Lib.hid hin
      clear hin
      go_enter Try.func36, Try.ntmps36
      go_wp2_with fail
      refine (C.out _ h1).mono ?_; rintro e w1 ⟨rfl, b1⟩
      go_wp2_with fail
      refine (within_is n 0 100 false HI.out _).mono ?_; rintro e w' ⟨rfl, rfl⟩
      go_wp2_with fail
      go_ret
      exact ⟨rfl, nx hb0 b1⟩
    | true =>
      obtain ⟨k1, k2⟩ := inB_true.1 hin
      obtain ⟨k3, k4⟩ := sq_bd k1 k2
      have HI := Lib.hid hin
      clear hin
      go_enter Try.func36, Try.ntmps36
      go_wp2_with fail
      refine (C.out _ h1).mono ?_; rintro e w1 ⟨rfl, b1⟩
      have hbox := box_cell b1 (by simp)
      have h2 := h1.below b1 (Nat.le_refl _)
      go_wp2_with fail
      refine (within_is n 0 100 true HI.out _).mono ?_; rintro e w' ⟨rfl, rfl⟩
      go_wp2_with fail
      refine (C2.out _ h2).mono ?_; rintro e w2 ⟨rfl, b2⟩
      go_wp2_with fail
      go_ret
      exact ⟨rfl, nx (nx hb0 b1) b2⟩

set_option maxHeartbeats 800000 in
theorem sb_spec (a0 : Option Addr) (c0 : Nat) (os : List Int) (n : Int) (w : World) (h0 : Ints w a0 c0 os) (hl : os.length ≤ 2000000) :
    Calls Try.prog 51 #[.agg #[.slice a0 os.length c0], .int .i64 n] w fun e w' => e = .returned (.bool (sbB os n)) ∧ Below w.heap.size w w' := by
  have hb0 := (Below.refl w.heap.size w).alloc (Nat.le_refl _) (.cells #[.slice a0 os.length c0] 26)
  have h1 := h0.below hb0 (Nat.le_refl _)
  have C := Lib.hid (fun w h => isGroup_spec a0 c0 os w h hl)
  unfold sbB
  cases hg0 : grpB os with
  | false =>
    rw [hg0] at C
    clear hg0
    go_enter Try.func51, Try.ntmps51
    go_wp2_with fail
    refine (C.out _ h1).mono ?_; rintro e w1 ⟨rfl, b1⟩
    go_wp2_with fail
    go_ret
    exact ⟨rfl, nx hb0 b1⟩
  | true =>
    obtain ⟨g1, g2, g3, g4⟩ := grp_parts hg0
    have C2 := Lib.hid (fun w h => l2Order_any a0 c0 os w h hg0)
    rw [hg0] at C
    obtain ⟨r, hr⟩ : ∃ r, r = gord os := ⟨_, rfl⟩
    rw [← hr] at C2 g3 g4 ⊢
    clear hr hg0 g2
    cases hin : inB n 0 100 with
    | false =>
      have HI := Lib.hid hin
      clear hin
      go_enter Try.func51, Try.ntmps51
      go_wp2_with fail
      refine (C.out _ h1).mono ?_; rintro e w1 ⟨rfl, b1⟩
      go_wp2_with fail
      refine (l1In_is n 0 100 false HI.out _).mono ?_; rintro e w' ⟨rfl, rfl⟩
      go_wp2_with fail
      go_ret
      exact ⟨rfl, nx hb0 b1⟩
    | true =>
      obtain ⟨k1, k2⟩ := inB_true.1 hin
      obtain ⟨k3, k4⟩ := sq_bd k1 k2
      have HI := Lib.hid hin
      clear hin
      go_enter Try.func51, Try.ntmps51
      go_wp2_with fail
      refine (C.out _ h1).mono ?_; rintro e w1 ⟨rfl, b1⟩
      have hbox := box_cell b1 (by simp)
      have h2 := h1.below b1 (Nat.le_refl _)
      go_wp2_with fail
      refine (l1In_is n 0 100 true HI.out _).mono ?_; rintro e w' ⟨rfl, rfl⟩
      go_wp2_with fail
      refine (C2.out _ h2).mono ?_; rintro e w2 ⟨rfl, b2⟩
      go_wp2_with fail
      go_ret
      exact ⟨rfl, nx (nx hb0 b1) b2⟩


end Go.Proofs.Ytbidkjhgodkamaa
