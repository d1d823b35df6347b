/-
Contracts of the reference's IsSidon, of IsSidon at sets of a group, and of both sides' LargestSidon. Conditions: lengths at most 2000000.
-/
import Derived.Test.YtbidkjhgodkamaaSid2
import Derived.Test.YtbidkjhgodkamaaFst
import Derived.Test.YtbidkjhgodkamaaLgs
import Derived.Laws.EntriesVeiled
namespace Go.Proofs.Ytbidkjhgodkamaa
open Go.RowKit Go.ChangeShapes
set_option linter.unusedVariables false

open Classical in
noncomputable def sdB (os : List Int) (a : Nat) : Bool := decide (SidP os (mems a))
theorem sdB_eq {os : List Int} {a : Nat} (hg0 : grpB os = true) (ha : a < setT os) : sidB os (a : Int) = sdB os a := by
  have hsb : setB os (a : Int) = true := by simp [setB, hg0]; omega
  unfold sidB sdB
  rw [hsb, Bool.true_and]
  rfl
theorem lt24_of2 {N b : Nat} (hN : N ≤ 24) (h : b < 2 ^ N) : b < 1099511627776 := by
  have := Nat.pow_le_pow_right (n := 2) (by decide) hN
  have e : (2 : Nat) ^ 24 = 16777216 := by decide
  omega
set_option maxHeartbeats 800000 in
theorem sid_spec (a0 : Option Addr) (c0 : Nat) (os : List Int) (a : Int) (w : World) (h0 : Ints w a0 c0 os) (hl : os.length ≤ 2000000) :
    Calls Try.prog 35 #[.agg #[.slice a0 os.length c0], .int .i64 a] w fun e w' => e = .returned (.bool (sidB os a)) ∧ Below w.heap.size w w' := by
  have hb0 := (Below.refl w.heap.size w).alloc (Nat.le_refl _) (.cells #[.slice a0 os.length c0] 26)
  have h1 := h0.below hb0 (Nat.le_refl _)
  have C := Lib.hid (fun w h => isSet_spec a0 c0 os a w h hl)
  cases hs : setB os a with
  | false =>
    have e : sidB os a = false := by simp [sidB, hs]
    rw [e]
    rw [hs] at C
    clear hs e
    go_enter Try.func35, Try.ntmps35
    go_wp2_with fail
    refine (C.out _ h1).mono ?_; rintro e w1 ⟨rfl, b1⟩
    go_wp2_with fail
    go_ret
    exact ⟨rfl, nx hb0 b1⟩
  | true =>
    obtain ⟨hg0, m, rfl, hm⟩ := setB_parts hs
    have hT := setT_bd hg0
    have e : sidB os (m : Int) = sdB os m := sdB_eq hg0 hm
    rw [e]
    rw [hs] at C
    have C2 := Lib.hid (fun w h => (show Calls Try.prog 195 #[.agg #[.slice a0 os.length c0], .int .i64 m] w fun e w' => e = .returned (.bool (sdB os m)) ∧ Below w.heap.size w w' from l22Sidon_any a0 c0 os m w h hg0 (by omega)))
    obtain ⟨q, hq⟩ : ∃ q, q = sdB os m := ⟨_, rfl⟩
    rw [← hq] at C2 ⊢
    clear hs e hq hg0 hm hT
    go_enter Try.func35, Try.ntmps35
    go_wp2_with fail
    refine (C.out _ h1).mono ?_; rintro e w1 ⟨rfl, b1⟩
    have hbox := box_cell b1 (by simp)
    have h2 := h1.below b1 (Nat.le_refl _)
    go_wp2_with fail
    refine (C2.out _ h2).mono ?_; rintro e w2 ⟨rfl, b2⟩
    go_wp2_with fail
    go_ret
    exact ⟨ret_bool (by simp), nx (nx hb0 b1) b2⟩
theorem l22Sidon_set (a0 : Option Addr) (c0 : Nat) (os : List Int) (a : Nat) (w : World) (h0 : Ints w a0 c0 os) (hg0 : grpB os = true) (ha : a < 1099511627776) :
    Calls Try.prog 195 #[.agg #[.slice a0 os.length c0], .int .i64 (a : Int)] w fun e w' => e = .returned (.bool (sdB os a)) ∧ Below w.heap.size w w' := l22Sidon_any a0 c0 os a w h0 hg0 ha
theorem isSidon_set (a0 : Option Addr) (c0 : Nat) (os : List Int) (a : Nat) (w : World) (h0 : Ints w a0 c0 os) (hl : os.length ≤ 2000000) (hg0 : grpB os = true) (ha : a < setT os) :
    Calls Try.prog 34 #[.agg #[.slice a0 os.length c0], .int .i64 (a : Int)] w fun e w' => e = .returned (.bool (sdB os a)) ∧ Below w.heap.size w w' := by
  have h := sid_impl a0 c0 os (a : Int) w h0 hl
  rw [sdB_eq hg0 ha] at h
  exact h

theorem LargestSidon_cl (gp : Nat) (a0 : Option Addr) (c0 : Nat) (os : List Int) (b : Nat) (w : World) (h0 : Ints w a0 c0 os) (hl : os.length ≤ 2000000) (hg0 : grpB os = true) (hb : b < setT os) (hc : w.cell? ⟨gp, 0, none⟩ = some (.slice a0 os.length c0)) :
    Calls Try.prog 199 #[.int .i64 (b : Int), .pointer (some ⟨gp, 0, none⟩)] w fun e w' => e = .returned (.bool (sdB os b)) ∧ Below w.heap.size w w' := by
  have C := Lib.hid (isSidon_set a0 c0 os b w h0 hl hg0 hb)
  obtain ⟨q, hq⟩ : ∃ q, q = sdB os b := ⟨_, rfl⟩
  rw [← hq] at C ⊢
  clear hq hb hg0
  go_enter Try.func199, Try.ntmps199
  go_wp2_with fail
  refine C.out.mono ?_; rintro e w1 ⟨rfl, b1⟩
  go_wp2_with fail
  go_ret
  exact ⟨rfl, b1⟩

def bLargestSidon (os : List Int) : Bool := grpB os && decide (gn os ≤ 13)
/-- What LargestSidon hands back. -/
noncomputable def lvLargestSidon (os : List Int) : Nat := if bLargestSidon os = true then lgGo (sdB os) (gn os) (gn os - 0) 0 0 else 0

set_option maxHeartbeats 1600000 in
theorem LargestSidon_spec (a0 : Option Addr) (c0 : Nat) (os : List Int) (w : World) (h0 : Ints w a0 c0 os) (hl : os.length ≤ 2000000) :
    Calls Try.prog 40 #[.agg #[.slice a0 os.length c0]] w fun e w' => e = .returned (.tuple #[.int .i64 (lvLargestSidon os : Int), .bool (bLargestSidon os)]) ∧ Below w.heap.size w w' := by
  have hb0 := (Below.refl w.heap.size w).alloc (Nat.le_refl _) (.cells #[.slice a0 os.length c0] 26)
  have h1 := h0.below hb0 (Nat.le_refl _)
  have C := Lib.hid (fun w h => isGroup_spec a0 c0 os w h hl)
  cases hg0 : grpB os with
  | false =>
    have e1 : bLargestSidon os = false := by simp [bLargestSidon, hg0]
    have e2 : lvLargestSidon os = 0 := by simp [lvLargestSidon, e1]
    rw [e1, e2]
    rw [hg0] at C
    clear hg0 e1 e2
    go_enter Try.func40, Try.ntmps40
    go_wp2_with fail
    refine (C.out _ h1).mono ?_; rintro e w1 ⟨rfl, b1⟩
    go_wp2_with fail
    go_ret2
    exact ⟨rfl, nx hb0 b1⟩
  | true =>
    obtain ⟨g2, g3, g4, g5, g6⟩ := grp_gn hg0
    rw [hg0] at C
    have C2 := Lib.hid (fun w h => l2Order_any a0 c0 os w h hg0)
    rw [← g5] at C2
    by_cases hm : gn os ≤ 13
    · have e1 : bLargestSidon os = true := by simp [bLargestSidon, hg0, hm]
      have e2 : lvLargestSidon os = lgGo (sdB os) (gn os) (gn os - 0) 0 0 := by rw [lvLargestSidon, if_pos e1]
      have CR := Lib.hid (fun w h => l22Largest_any (sdB os) (gn os) os a0 c0 g4 hg0 g5.symm (Lib.hid (fun b w hb h => l22Sidon_set a0 c0 os b w h hg0 (lt24_of2 g4 hb))) (gn os - 0) 0 0 (lvLargestSidon os) w rfl e2.symm (by omega) (by decide) h)
      rw [e1]
      obtain ⟨v, hv⟩ : ∃ v, v = lvLargestSidon os := ⟨_, rfl⟩
      rw [← hv] at CR ⊢
      obtain ⟨N, hN⟩ : ∃ N, N = gn os := ⟨_, rfl⟩
      rw [← hN] at C2 hm g3
      clear e1 e2 hv g2 g4 g5 g6 hN hg0
      go_enter Try.func40, Try.ntmps40
      go_wp2_with fail
      refine (C.out _ h1).mono ?_; rintro e w1 ⟨rfl, b1⟩
      have q1 := box_cell b1 (by simp)
      have z1 : w.heap.size < w1.heap.size := by have := b1.size; simp at this; omega
      have h2 := h1.below b1 (Nat.le_refl _)
      have hb1 := nx hb0 b1
      go_wp2_with fail
      refine (C2.out _ h2).mono ?_; rintro e w2 ⟨rfl, b2⟩
      have q2 := (b2.cell (p := ⟨w.heap.size, 0, none⟩) z1).trans q1
      have h3 := h2.below b2 (Nat.le_refl _)
      have hb2 := nx hb1 b2
      clear C C2 h0 h1 h2 hb0 hb1 b1 b2 q1 z1
      go_wp2_with fail
      refine (CR.out _ h3).mono ?_; rintro e w3 ⟨rfl, b3⟩
      go_wp2_with fail
      go_ret2
      exact ⟨rfl, nx hb2 b3⟩
    · have e1 : bLargestSidon os = false := by simp [bLargestSidon, hm]
      have e2 : lvLargestSidon os = 0 := by simp [lvLargestSidon, e1]
      rw [e1, e2]
      obtain ⟨N, hN⟩ : ∃ N, N = gn os := ⟨_, rfl⟩
      rw [← hN] at C2 hm g4
      clear e1 e2 g2 g3 g5 g6 hN hg0
      go_enter Try.func40, Try.ntmps40
      go_wp2_with fail
      refine (C.out _ h1).mono ?_; rintro e w1 ⟨rfl, b1⟩
      have q1 := box_cell b1 (by simp)
      have h2 := h1.below b1 (Nat.le_refl _)
      have hb1 := nx hb0 b1
      go_wp2_with fail
      refine (C2.out _ h2).mono ?_; rintro e w2 ⟨rfl, b2⟩
      go_wp2_with fail
      go_ret2
      exact ⟨rfl, nx hb1 b2⟩

set_option maxHeartbeats 1600000 in
theorem LargestSidon_impl (a0 : Option Addr) (c0 : Nat) (os : List Int) (w : World) (h0 : Ints w a0 c0 os) (hl : os.length ≤ 2000000) :
    Calls Try.prog 39 #[.agg #[.slice a0 os.length c0]] w fun e w' => e = .returned (.tuple #[.int .i64 (lvLargestSidon os : Int), .bool (bLargestSidon os)]) ∧ Below w.heap.size w w' := by
  have hb0 := (Below.refl w.heap.size w).alloc (Nat.le_refl _) (.cells #[.slice a0 os.length c0] 26)
  have h1 := h0.below hb0 (Nat.le_refl _)
  have C := Lib.hid (fun w h => isGroup_impl a0 c0 os w h hl)
  cases hg0 : grpB os with
  | false =>
    have e1 : bLargestSidon os = false := by simp [bLargestSidon, hg0]
    have e2 : lvLargestSidon os = 0 := by simp [lvLargestSidon, e1]
    rw [e1, e2]
    rw [hg0] at C
    clear hg0 e1 e2
    go_enter Try.func39, Try.ntmps39
    go_wp2_with fail
    refine (C.out _ h1).mono ?_; rintro e w1 ⟨rfl, b1⟩
    go_wp2_with fail
    go_ret2
    exact ⟨rfl, nx hb0 b1⟩
  | true =>
    obtain ⟨g2, g3, g4, g5, g6⟩ := grp_gn hg0
    rw [hg0] at C
    have C2 := Lib.hid (fun w h => orderOf_impl a0 c0 os w h hl)
    rw [show ordV os = gord os by simp [ordV, hg0], ← g5] at C2
    by_cases hm : gn os ≤ 13
    · have e1 : bLargestSidon os = true := by simp [bLargestSidon, hg0, hm]
      have e2 : lvLargestSidon os = lgGo (sdB os) (gn os) (gn os - 0) 0 0 := by rw [lvLargestSidon, if_pos e1]
      have e3 : (fsGo (sdB os) (gn os) (gn os) 0 0 ⟨0, 0, 1⟩).best = lvLargestSidon os := by
        rw [(fsGo_best (sdB os) (gn os) (by omega) (gn os) 0 0 ⟨0, 0, 1⟩ (Nat.le_refl _) (by simp) (by simp [popc_zero]) (by simp [FS.ok, popc_zero])).2, e2]
        rfl
      have hbd : lvLargestSidon os < 16777216 := by
        rw [e2]
        have h1 := lgGo_lt (sdB os) (gn os) (gn os - 0) 0 0 (by omega) (Nat.two_pow_pos _) (Nat.two_pow_pos _)
        have h2 := Nat.pow_le_pow_right (n := 2) (by decide) g4
        have h3 : (2 : Nat) ^ 24 = 16777216 := by decide
        omega
      have CF := Lib.hid (fun w2 co cp => first_any (sdB os) (gn os) os w2 199 w.heap.size a0 c0 g4 co Try.call199 cp)
      have CC := Lib.hid (fun b w2 h hb hc => LargestSidon_cl w.heap.size a0 c0 os b w2 h hl hg0 hb hc)
      rw [g6] at CC
      rw [e3] at CF
      rw [e1]
      obtain ⟨v, hv⟩ : ∃ v, v = lvLargestSidon os := ⟨_, rfl⟩
      rw [← hv] at CF hbd ⊢
      obtain ⟨P, hP⟩ : ∃ P, P = sdB os := ⟨_, rfl⟩
      rw [← hP] at CF CC
      obtain ⟨N, hN⟩ : ∃ N, N = gn os := ⟨_, rfl⟩
      rw [← hN] at CF CC C2 hm g3
      clear e1 e2 e3 hv g2 g4 g5 g6 hN hg0 hP
      go_enter Try.func39, Try.ntmps39
      go_wp2_with fail
      refine (C.out _ h1).mono ?_; rintro e w1 ⟨rfl, b1⟩
      have q1 := box_cell b1 (by simp)
      have z1 : w.heap.size < w1.heap.size := by have := b1.size; simp at this; omega
      have h2 := h1.below b1 (Nat.le_refl _)
      have hb1 := nx hb0 b1
      go_wp2_with fail
      refine (C2.out _ h2).mono ?_; rintro e w2 ⟨rfl, b2⟩
      have q2 := (b2.cell (p := ⟨w.heap.size, 0, none⟩) z1).trans q1
      have z2 := Nat.lt_of_lt_of_le z1 b2.size
      have h3 := h2.below b2 (Nat.le_refl _)
      have hb2 := nx hb1 b2
      have CA := Lib.hid (fun w' (hb : Below w2.heap.size w2 w') => C2.out w' (h3.below hb (Nat.le_refl _)))
      have CD := Lib.hid (fun b w' (hbN : b < 2 ^ N) (hb : Below w2.heap.size w2 w') => CC.out b w' (h3.below hb (Nat.le_refl _)) hbN ((hb.cell (p := ⟨w.heap.size, 0, none⟩) z2).trans q2))
      have CF2 := Lib.hid (CF.out w2 CA CD)
      clear CF CC C C2 h0 h1 h2 h3 hb0 hb1 b1 b2 q1 z1
      go_wp2_with fail
      refine CF2.out.mono ?_; rintro e w3 ⟨rfl, b3⟩
      clear CF2
      go_wp2_with fail
      go_ret2
      exact ⟨rfl, nx hb2 b3⟩
    · have e1 : bLargestSidon os = false := by simp [bLargestSidon, hm]
      have e2 : lvLargestSidon os = 0 := by simp [lvLargestSidon, e1]
      rw [e1, e2]
      obtain ⟨N, hN⟩ : ∃ N, N = gn os := ⟨_, rfl⟩
      rw [← hN] at C2 hm g4
      clear e1 e2 g2 g3 g5 g6 hN hg0
      go_enter Try.func39, Try.ntmps39
      go_wp2_with fail
      refine (C.out _ h1).mono ?_; rintro e w1 ⟨rfl, b1⟩
      have q1 := box_cell b1 (by simp)
      have h2 := h1.below b1 (Nat.le_refl _)
      have hb1 := nx hb0 b1
      go_wp2_with fail
      refine (C2.out _ h2).mono ?_; rintro e w2 ⟨rfl, b2⟩
      go_wp2_with fail
      go_ret2
      exact ⟨rfl, nx hb1 b2⟩
end Go.Proofs.Ytbidkjhgodkamaa
