/-
The program's CountColorings returns what the reference's returns, for all arguments. No condition.
-/
import Derived.Test.YtbidkjhgodkamaaCnt
import Derived.Laws.EntriesVeiled
namespace Go.Proofs.Ytbidkjhgodkamaa
open Go.ChangeShapes Go.RowKit

noncomputable def ccv (k n : Int) : Int := if inB k 1 3 = true ∧ inB n 0 14 = true then ccF k.toNat n.toNat [] else -1

set_option maxHeartbeats 800000 in
theorem cc_spec (k n : Int) (w : World) :
    Calls Try.prog 108 #[.int .i64 k, .int .i64 n] w fun e w' => e = .returned (.int .i64 (ccv k n)) ∧ Below w.heap.size w w' := by
  cases h0 : inB k 1 3 with
  | false =>
    have e : ccv k n = -1 := by simp [ccv, h0]
    rw [e]; clear e
    go_enter Try.func108, Try.ntmps108
    go_wp2_with fail
    refine (l1In_is k 1 3 false h0 _).mono ?_; rintro e w' ⟨rfl, rfl⟩
    go_wp2_with fail
    go_ret
    exact ⟨rfl, Below.refl _ _⟩
  | true =>
    cases h1 : inB n 0 14 with
    | false =>
      have e : ccv k n = -1 := by simp [ccv, h1]
      rw [e]; clear e
      go_enter Try.func108, Try.ntmps108
      go_wp2_with fail
      refine (l1In_is k 1 3 true h0 _).mono ?_; rintro e w' ⟨rfl, rfl⟩
      go_wp2_with fail
      refine (l1In_is n 0 14 false h1 _).mono ?_; rintro e w' ⟨rfl, rfl⟩
      go_wp2_with fail
      go_ret
      exact ⟨rfl, Below.refl _ _⟩
    | true =>
      have e : ccv k n = ccF k.toNat n.toNat [] := by simp [ccv, h0, h1]
      rw [e]; clear e
      obtain ⟨g1, g2⟩ := inB_true.1 h0
      obtain ⟨g3, g4⟩ := inB_true.1 h1
      obtain ⟨k, rfl⟩ := Int.eq_ofNat_of_zero_le (by omega : 0 ≤ k)
      obtain ⟨n, rfl⟩ := Int.eq_ofNat_of_zero_le g3
      simp only [Int.toNat_natCast]
      have hm := (OwnI.made w w.heap.size (Nat.le_refl _)).ints
      have hb := (Below.refl w.heap.size w).alloc (Nat.le_refl _) (.cells #[] 3)
      have C := Lib.hid (l24Count_any k n (by omega) (by omega) n [] _ _ _ (by simp) hm)
      obtain ⟨r, hr⟩ : ∃ r, r = ccF k n [] := ⟨_, rfl⟩
      rw [← hr] at C ⊢
      have H0 := Lib.hid h0
      have H1 := Lib.hid h1
      clear hr hm h0 h1
      go_enter Try.func108, Try.ntmps108
      go_wp2_with fail
      refine (l1In_is (k : Int) 1 3 true H0.out _).mono ?_; rintro e w' ⟨rfl, rfl⟩
      go_wp2_with fail
      refine (l1In_is (n : Int) 0 14 true H1.out _).mono ?_; rintro e w' ⟨rfl, rfl⟩
      go_wp2_with fail
      refine C.out.mono ?_; rintro e w1 ⟨rfl, b1⟩
      go_wp2_with fail
      go_ret
      exact ⟨rfl, nx hb b1⟩

set_option maxHeartbeats 1600000 in
theorem cc_impl (k n : Int) (w : World) :
    Calls Try.prog 100 #[.int .i64 k, .int .i64 n] w fun e w' => e = .returned (.int .i64 (ccv k n)) ∧ Below w.heap.size w w' := by
  have hb2 := ((Below.refl w.heap.size w).alloc (Nat.le_refl _) (.cells #[.int .i64 k] 3)).alloc (by simp) (.cells #[.int .i64 n] 3)
  cases h0 : inB k 1 3 with
  | false =>
    have e : ccv k n = -1 := by simp [ccv, h0]
    rw [e]; clear e
    go_enter Try.func100, Try.ntmps100
    go_wp2_with fail
    refine (within_is k 1 3 false h0 _).mono ?_; rintro e w' ⟨rfl, rfl⟩
    go_wp2_with fail
    go_ret
    exact ⟨rfl, hb2⟩
  | true =>
    cases h1 : inB n 0 14 with
    | false =>
      have e : ccv k n = -1 := by simp [ccv, h1]
      rw [e]; clear e
      go_enter Try.func100, Try.ntmps100
      go_wp2_with fail
      refine (within_is k 1 3 true h0 _).mono ?_; rintro e w' ⟨rfl, rfl⟩
      go_wp2_with fail
      refine (within_is n 0 14 false h1 _).mono ?_; rintro e w' ⟨rfl, rfl⟩
      go_wp2_with fail
      go_ret
      exact ⟨rfl, hb2⟩
    | true =>
      have e : ccv k n = ccF k.toNat n.toNat [] := by simp [ccv, h0, h1]
      rw [e]; clear e
      obtain ⟨g1, g2⟩ := inB_true.1 h0
      obtain ⟨g3, g4⟩ := inB_true.1 h1
      obtain ⟨k, rfl⟩ := Int.eq_ofNat_of_zero_le (by omega : 0 ≤ k)
      obtain ⟨n, rfl⟩ := Int.eq_ofNat_of_zero_le g3
      simp only [Int.toNat_natCast]
      obtain ⟨r, hr⟩ : ∃ r, r = ccF k n [] := ⟨_, rfl⟩
      rw [← hr]
      have HR := Lib.hid hr
      clear hr
      have H0 := Lib.hid h0
      have H1 := Lib.hid h1
      clear h0 h1
      go_enter Try.func100, Try.ntmps100
      go_wp2_with fail
      refine (within_is (k : Int) 1 3 true H0.out _).mono ?_; rintro e w' ⟨rfl, rfl⟩
      go_wp2_with fail
      refine (within_is (n : Int) 0 14 true H1.out _).mono ?_; rintro e w' ⟨rfl, rfl⟩
      go_wp2_with fail
      have e2 : (0 : Int) + ccF k n [] = r := by rw [HR.out]; omega
      have hbd := ccF_bd14 (k := k) (f := n) (by omega) (by omega) []
      refine (ccl_any k n (by omega) (by omega) (w.heap.size + 1) (w.heap.size + 1 + 1) w.heap.size (w.heap.size + 1 + 1 + 1) n [] _ 0 _ 0 (by simp) (Ints.nil _ _ _ (by omega)) ?hne ?env (by omega) (by omega)).mono ?_
      case hne => intro x hx; simp at hx; subst hx; simp; omega
      case env => exact ⟨one_alloc (one_alloc (one_alloc (new_at (by simp)))), one_alloc (one_alloc (new_at (by simp))), one_alloc (one_alloc (one_alloc (one_alloc (new_at rfl)))), one_alloc (new_at (by simp)), by omega, by omega, by omega⟩
      rw [e2]
      rintro e w1 ⟨rfl, env1, gr⟩
      have q := cell_of_one env1.hc
      have hb5 := ((hb2.alloc (by simp; omega) (.cells #[.int .i64 0] 3)).alloc (by simp; omega) (.cells #[.func (.func 238) #[] #[.pointer (some ⟨w.heap.size + 1, 0, none⟩), .pointer (some ⟨w.heap.size + 1 + 1, 0, none⟩), .pointer (some ⟨w.heap.size, 0, none⟩), .pointer (some ⟨w.heap.size + 1 + 1 + 1, 0, none⟩)]] 118)).alloc (by simp; omega) (.cells #[] 3)
      have hbF := hb5.grown gr (by simp; omega) (fun q hq => by simp at hq; omega)
      clear hb5 hb2 gr env1 e2 hbd
      go_wp2_with fail
      go_ret
      exact ⟨rfl, hbF⟩


end Go.Proofs.Ytbidkjhgodkamaa
