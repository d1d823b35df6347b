/-
Contracts of both IsConnections: a set without 0 that has with each element its negative. Conditions: lengths at most 2000000.
-/
import Derived.Test.YtheeglaocflgmaaOrs
namespace Go.Proofs.Ytheeglaocflgmaa
open Go.RowKit Go.ChangeShapes

def conB (os : List Int) (a : Int) : Bool := setB os a && (!(a.toNat.testBit 0) && (orL (gneg os) (mems a.toNat) == a.toNat))
theorem conB_parts {os : List Int} {a : Int} (h : conB os a = true) : grpB os = true ∧ ∃ m : Nat, a = (m : Int) ∧ m < setT os ∧ m.testBit 0 = false ∧ orL (gneg os) (mems m) = m := by
  simp only [conB, Bool.and_eq_true] at h
  obtain ⟨h1, h2, h3⟩ := h
  obtain ⟨g, m, rfl, hm⟩ := setB_parts h1
  refine ⟨g, m, rfl, hm, ?_, ?_⟩
  · simpa using h2
  · simpa using h3
theorem nat_beq (r m : Nat) : ((r : Int) == (m : Int)) = (r == m) := by
  rw [Bool.eq_iff_iff, beq_iff_eq, beq_iff_eq]; omega
theorem last_val (m : Nat) (h : m < 9223372036854775808) (b : Bool) (hb : m.testBit 0 = b) : bits .and .i64 (m : Int) 1 = if b = true then 1 else 0 := by
  have := bit_at m 0 h
  rw [hb] at this
  simpa using this

set_option maxHeartbeats 800000 in
theorem isCon_spec (a0 : Option Addr) (c0 : Nat) (os : List Int) (a : Int) (w : World) (h0 : Ints w a0 c0 os) (hl : os.length ≤ 2000000) :
    Calls Try.prog 43 #[.agg #[.slice a0 os.length c0], .int .i64 a] w fun e w' => e = .returned (.bool (conB os a)) ∧ Below w.heap.size w w' := by
  have hb0 := (Below.refl w.heap.size w).alloc (Nat.le_refl _) (.cells #[.slice a0 os.length c0] 46)
  have h1 := h0.below hb0 (Nat.le_refl _)
  have C := Lib.hid (fun w h => isSet_spec a0 c0 os a w h hl)
  cases hs : setB os a with
  | false =>
    have e : conB os a = false := by simp [conB, hs]
    rw [e]
    rw [hs] at C
    clear hs e
    go_enter Try.func43, Try.ntmps43
    go_wp2_with fail
    refine (C.out _ h1).mono ?_; rintro e w1 ⟨rfl, b1⟩
    go_wp2_with fail
    go_ret
    exact ⟨rfl, nx hb0 b1⟩
  | true =>
    obtain ⟨g, m, rfl, hm⟩ := setB_parts hs
    have hT := setT_bd g
    have C2 := Lib.hid (fun w h => l3Negate_any a0 c0 os m w h g (by omega))
    rw [hs] at C
    obtain ⟨r, hr⟩ : ∃ r, r = orL (gneg os) (mems m) := ⟨_, rfl⟩
    rw [← hr] at C2
    have hm2 : m < 9223372036854775808 := by omega
    cases ht : m.testBit 0 with
    | true =>
      have e : conB os (m : Int) = false := by simp [conB, ht]
      rw [e]
      have hbt := last_val m hm2 true ht
      simp only [if_pos] at hbt
      clear hs e hr g hm hT ht
      go_enter Try.func43, Try.ntmps43
      go_wp2_with fail
      refine (C.out _ h1).mono ?_; rintro e w1 ⟨rfl, b1⟩
      have hbox := box_cell b1 (by simp)
      go_wp2_with fail
      go_ret
      exact ⟨rfl, nx hb0 b1⟩
    | false =>
      have e : conB os (m : Int) = (r == m) := by simp [conB, ht, hs, ← hr]
      rw [e]
      have hbt := last_val m hm2 false ht
      simp only [if_neg (show ¬ (false = true) by decide)] at hbt
      clear hs e hr g hm hT ht
      go_enter Try.func43, Try.ntmps43
      go_wp2_with fail
      refine (C.out _ h1).mono ?_; rintro e w1 ⟨rfl, b1⟩
      have hbox := box_cell b1 (by simp)
      have h2 := h1.below b1 (Nat.le_refl _)
      go_wp2_with fail
      refine (C2.out _ h2).mono ?_; rintro e w2 ⟨rfl, b2⟩
      go_wp2_with fail
      go_ret
      exact ⟨ret_bool (nat_beq r m), nx (nx hb0 b1) b2⟩

set_option maxHeartbeats 800000 in
theorem isCon_impl (a0 : Option Addr) (c0 : Nat) (os : List Int) (a : Int) (w : World) (h0 : Ints w a0 c0 os) (hl : os.length ≤ 2000000) :
    Calls Try.prog 45 #[.agg #[.slice a0 os.length c0], .int .i64 a] w fun e w' => e = .returned (.bool (conB os a)) ∧ Below w.heap.size w w' := by
  have hb0 := (Below.refl w.heap.size w).alloc (Nat.le_refl _) (.cells #[.slice a0 os.length c0] 46)
  have h1 := h0.below hb0 (Nat.le_refl _)
  have C := Lib.hid (fun w h => isSet_impl a0 c0 os a w h hl)
  cases hs : setB os a with
  | false =>
    have e : conB os a = false := by simp [conB, hs]
    rw [e]
    rw [hs] at C
    clear hs e
    go_enter Try.func45, Try.ntmps45
    go_wp2_with fail
    refine (C.out _ h1).mono ?_; rintro e w1 ⟨rfl, b1⟩
    go_wp2_with fail
    go_ret
    exact ⟨rfl, nx hb0 b1⟩
  | true =>
    obtain ⟨g, m, rfl, hm⟩ := setB_parts hs
    have hT := setT_bd g
    have C2 := Lib.hid (fun w h => opposite_any a0 c0 os m w h g (by omega))
    rw [hs] at C
    obtain ⟨r, hr⟩ : ∃ r, r = orL (gneg os) (mems m) := ⟨_, rfl⟩
    rw [← hr] at C2
    have hm2 : m < 9223372036854775808 := by omega
    cases ht : m.testBit 0 with
    | true =>
      have e : conB os (m : Int) = false := by simp [conB, ht]
      rw [e]
      have CI := Lib.hid (in_any m 0 hm2 (by omega))
      rw [ht] at CI
      clear hs e hr g hm hT ht
      go_enter Try.func45, Try.ntmps45
      go_wp2_with fail
      refine (C.out _ h1).mono ?_; rintro e w1 ⟨rfl, b1⟩
      have hbox := box_cell b1 (by simp)
      go_wp2_with fail
      refine (CI.out _).mono ?_; rintro e w' ⟨rfl, rfl⟩
      go_wp2_with fail
      go_ret
      exact ⟨rfl, nx hb0 b1⟩
    | false =>
      have e : conB os (m : Int) = (r == m) := by simp [conB, ht, hs, ← hr]
      rw [e]
      have CI := Lib.hid (in_any m 0 hm2 (by omega))
      rw [ht] at CI
      clear hs e hr g hm hT ht
      go_enter Try.func45, Try.ntmps45
      go_wp2_with fail
      refine (C.out _ h1).mono ?_; rintro e w1 ⟨rfl, b1⟩
      have hbox := box_cell b1 (by simp)
      have h2 := h1.below b1 (Nat.le_refl _)
      go_wp2_with fail
      refine (CI.out _).mono ?_; rintro e w' ⟨rfl, rfl⟩
      go_wp2_with fail
      refine (C2.out _ h2).mono ?_; rintro e w2 ⟨rfl, b2⟩
      go_wp2_with fail
      go_ret
      exact ⟨ret_bool (nat_beq r m), nx (nx hb0 b1) b2⟩

end Go.Proofs.Ytheeglaocflgmaa
