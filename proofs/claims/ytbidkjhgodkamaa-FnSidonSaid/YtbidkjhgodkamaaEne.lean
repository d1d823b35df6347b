/-
Contract of the reference's EnergyOf at sets of a group: the sum of the squares of the table. Conditions: a group of at most 2000000 orders, sets of it.
-/
import Derived.Test.YtbidkjhgodkamaaSdq
import Derived.Test.YtbidkjhgodkamaaDrw8
import Derived.Test.YtbidkjhgodkamaaTab
import Derived.Test.YtbidkjhgodkamaaCor
namespace Go.Proofs.Ytbidkjhgodkamaa
open Go.RowKit Go.ChangeShapes
set_option linter.unusedVariables false

set_option maxRecDepth 20000 in
set_option maxHeartbeats 1600000 in
theorem energy_spec (a0 : Option Addr) (c0 : Nat) (os : List Int) (a b : Nat) (w : World) (h0 : Ints w a0 c0 os) (hl : os.length ≤ 2000000) (hg0 : grpB os = true) (ha : a < 2 ^ gn os) (hb : b < 2 ^ gn os) :
    Calls Try.prog 37 #[.agg #[.slice a0 os.length c0], .int .i64 a, .int .i64 b] w fun e w' => e = .returned (.int .i64 (sqL (tbl os a b))) ∧ Below w.heap.size w w' := by
  have hb0 := (Below.refl w.heap.size w).alloc (Nat.le_refl _) (.cells #[.slice a0 os.length c0] 26)
  have h1 := h0.below hb0 (Nat.le_refl _)
  obtain ⟨g2, g3, g4, g5, g6⟩ := grp_gn hg0
  have C := Lib.hid (sumTable_spec a0 c0 os a b _ h1 hl hg0 (by rw [g6]; exact ha) (by rw [g6]; exact hb))
  have hbd := tbl_bd hg0 ha hb
  have hlen := tbl_len os a b
  obtain ⟨T, hT⟩ : ∃ T, T = tbl os a b := ⟨_, rfl⟩
  rw [← hT] at C hbd hlen ⊢
  have HBD := Lib.hid hbd
  have hT0 : 1 ≤ T.length := by omega
  have hT1 : T.length ≤ 24 := by omega
  have hlz : ((T.length : Int) == 0) = false := by rw [beq_eq_false_iff_ne]; omega
  clear hT hbd hlen g2 g3 g4 g5 g6 h1 h0 ha hb
  go_enter Try.func37, Try.ntmps37
  go_wp2_with fail
  refine C.out.mono ?_; rintro e w1 ⟨a1, c1, rfl, o1, b1⟩
  have B1 := nx hb0 b1
  clear b1 hb0 C
  go_wp2_with fail
  obtain ⟨W, hW⟩ : ∃ W, W = w1 := ⟨_, rfl⟩
  go_loopw [8, 9] (fun vn vi wr => ∃ k : Nat, k ≤ T.length ∧ vi = .int .i64 (k : Int) ∧ vn = .int .i64 (sqL (T.take k)) ∧ OwnI wr (w.alloc (.cells #[.slice a0 os.length c0] 26)).heap.size a1 c1 T ∧ Below w.heap.size w wr) (fun _ vi _ => T.length - (intOf vi).toNat)
  case atStart => exact ⟨0, Nat.zero_le _, rfl, by simp [sqL], o1, B1⟩
  case round =>
    clear o1 B1
    obtain ⟨k, hk, rfl, rfl, o2, B2⟩ := hrel
    by_cases hlt : k < T.length
    · obtain ⟨g, rfl, _, _⟩ := o2.addr (by omega)
      have hc := o2.cell k hlt
      have hs := sqL_bd T k HBD.out hk
      have ht := sqL_take hlt
      have hx := HBD.out _ (List.getElem_mem hlt)
      obtain ⟨x, hx1⟩ : ∃ x, x = T[k]'hlt := ⟨_, rfl⟩
      rw [← hx1] at hc ht hx
      have h1 : x * x ≤ 576 * 576 := Int.mul_le_mul hx.2 hx.2 hx.1 (by omega)
      have h2 : 0 ≤ x * x := Int.mul_nonneg hx.1 hx.1
      obtain ⟨s, hs1⟩ : ∃ s, s = sqL (T.take k) := ⟨_, rfl⟩
      obtain ⟨t, ht1⟩ : ∃ t, t = sqL (T.take (k + 1)) := ⟨_, rfl⟩
      rw [← hs1] at hs ht ⊢
      rw [← ht1] at ht
      obtain ⟨X, hX⟩ : ∃ X, X = x * x := ⟨_, rfl⟩
      rw [← hX] at ht
      have hw1 : IntKind.i64.wrap (x * x) = X := by rw [← hX, IntKind.wrap_i64]; omega
      have hw3 : IntKind.i64.wrap X = X := by rw [IntKind.wrap_i64]; omega
      have hw2 : IntKind.i64.wrap (s + X) = t := by rw [IntKind.wrap_i64]; omega
      have HT1 := Lib.hid ht1
      have hi1 : (k : Int) < (T.length : Int) := by omega
      clear hx h1 h2 hs hX hx1 hs1 ht ht1
      go_wp2_with fail
      refine wp_region_quiet_lit (by kernel_rfl) (by kernel_rfl) ?_
      repeat (any_goals (first | go_big_quiet_step (fail) | quiet_step (fail)))
      refine wpQuiet_nil ?_
      intro _ hw'
      obtain ⟨nq, hw''⟩ := hw'
      subst hw''
      go_wp2_with fail
      go_roundw
      case rel => exact ⟨k + 1, by omega, by go_num, by rw [HT1.out], o2, below_drewN B2 _⟩
      case measure => simp [intOf]; omega
    · obtain rfl : k = T.length := by omega
      rw [List.take_length]
      go_wp2_with fail
      go_ret
      exact ⟨rfl, B2⟩
end Go.Proofs.Ytbidkjhgodkamaa
