/-
Contracts of both sides' MiddleThird and SumFreePart. Conditions: lengths at most 2000000.
-/
import Derived.Test.YtbidkjhgodkamaaPop
import Derived.Test.YtbidkjhgodkamaaAlg
import Derived.Test.YtbidkjhgodkamaaTri
import Derived.Deep.QuietTactic
import Derived.BigQuiet
import Derived.Deep.RegionHeld3
namespace Go.Proofs.Ytbidkjhgodkamaa
open Go.RowKit Go.ChangeShapes
set_option linter.unusedVariables false

def mtTo (n : Nat) : Nat → Nat
  | 0 => 0
  | k + 1 => if n < 3 * k ∧ 3 * k ≤ 2 * n then mtTo n k ||| 2 ^ k else mtTo n k
theorem mtTo_lt (n : Nat) {m : Nat} : ∀ k, k ≤ m → mtTo n k < 2 ^ m
  | 0, _ => Nat.two_pow_pos m
  | k + 1, h => by
    unfold mtTo
    split
    · exact Nat.or_lt_two_pow (mtTo_lt n k (by omega)) (Nat.pow_lt_pow_right (by decide) h)
    · exact mtTo_lt n k (by omega)
theorem mtTo_bit (n i : Nat) : ∀ k, (mtTo n k).testBit i = (decide (i < k) && decide (n < 3 * i ∧ 3 * i ≤ 2 * n))
  | 0 => by simp [mtTo]
  | k + 1 => by
    unfold mtTo
    split
    · rename_i h
      rw [Nat.testBit_or, Nat.testBit_two_pow, mtTo_bit n i k]
      by_cases e : k = i
      · subst e; simp [h]
      · by_cases h2 : i < k
        · simp [e, h2, show i < k + 1 by omega]
        · simp [e, h2, show ¬ i < k + 1 by omega]
    · rename_i h
      rw [mtTo_bit n i k]
      by_cases e : k = i
      · subst e; simp [h]
      · by_cases h2 : i < k
        · simp [h2, show i < k + 1 by omega]
        · simp [h2, show ¬ i < k + 1 by omega]
theorem mt24 {n k : Nat} (hk : k ≤ 24) : mtTo n k < 16777216 := by
  have h := mtTo_lt n k hk
  have e : (2 : Nat) ^ 24 = 16777216 := by decide
  omega
/-- What MiddleThird hands back. -/
def mtV (os : List Int) : Int := if grpB os = true then (if os.length = 1 then (mtTo (gn os) (gn os) : Int) else 0) else -1
theorem gn_one {os : List Int} (hg : grpB os = true) (h : os.length = 1) : ∃ o : Int, os = [o] ∧ o = (gn os : Int) := by
  match os, h with
  | [o], _ =>
    refine ⟨o, rfl, ?_⟩
    obtain ⟨g2, g3, g4, g5, g6⟩ := grp_gn hg
    rw [g5]; simp [gord]

set_option maxHeartbeats 1600000 in
theorem mid_impl (a0 : Option Addr) (c0 : Nat) (os : List Int) (w : World) (h0 : Ints w a0 c0 os) (hl : os.length ≤ 2000000) :
    Calls Try.prog 21 #[.agg #[.slice a0 os.length c0]] w fun e w' => e = .returned (.int .i64 (mtV os)) ∧ Below w.heap.size w w' := by
  have hb0 := (Below.refl w.heap.size w).alloc (Nat.le_refl _) (.cells #[.slice a0 os.length c0] 26)
  have h1 := h0.below hb0 (Nat.le_refl _)
  have C := Lib.hid (fun w h => isGroup_impl a0 c0 os w h hl)
  cases hg0 : grpB os with
  | false =>
    have e : mtV os = -1 := by simp [mtV, hg0]
    rw [e]
    rw [hg0] at C
    clear hg0 e
    go_enter Try.func21, Try.ntmps21
    go_wp2_with fail
    refine (C.out _ h1).mono ?_; rintro e w1 ⟨rfl, b1⟩
    go_wp2_with fail
    go_ret
    exact ⟨rfl, nx hb0 b1⟩
  | true =>
    obtain ⟨g2, g3, g4, g5, g6⟩ := grp_gn hg0
    rw [hg0] at C
    by_cases hlen : os.length = 1
    · have e : mtV os = (mtTo (gn os) (gn os) : Int) := by simp [mtV, hg0, hlen]
      rw [e]
      obtain ⟨o, ho, hog⟩ := gn_one hg0 hlen
      have hcs := h1.2.2.2.2
      obtain ⟨n, hn⟩ : ∃ n, n = gn os := ⟨_, rfl⟩
      rw [← hn] at g3 g4 hog ⊢
      have hcell : ∃ b off, a0 = some ⟨b, off, none⟩ ∧ b < w.heap.size ∧ (w.alloc (.cells #[.slice a0 os.length c0] 26)).cell? ⟨b, off, none⟩ = some (.int .i64 (n : Int)) := by
        rcases h0.2.2.2.2 with hc | ⟨b, off, ha, hb, hc⟩
        · rw [hc] at hlen; simp at hlen
        · refine ⟨b, off, ha, hb, ?_⟩
          rw [hb0.cell (p := ⟨b, off, none⟩) hb]
          have := hc 0 (by omega)
          rw [Nat.add_zero] at this
          rw [this]
          subst ho
          simp [hog]
      obtain ⟨b, off, rfl, hbB, hcel⟩ := hcell
      have hlen' : (os.length : Int) = 1 := by omega
      have hcap : 1 ≤ c0 := by have := h0.1; omega
      have hll := Lib.hid hlen
      have HT := Lib.hid (fun k (hk : k ≤ n) => (mt24 (n := n) (show k ≤ 24 by omega)))
      have hne : ((os.length : Int) == 1) = true := by simp; omega
      have hpos : 0 < os.length := by omega
      clear e hlen ho hog hn g2 g5 g6 hg0 hcs hlen' hll
      go_enter Try.func21, Try.ntmps21
      go_wp2_with fail
      refine (C.out _ h1).mono ?_; rintro e w1 ⟨rfl, b1⟩
      have q1 := box_cell b1 (by simp)
      have q2 := (b1.cell (p := ⟨b, off, none⟩) (by simp; omega)).trans hcel
      have hb1 := nx hb0 b1
      clear b1 hb0 hcel h1 h0 C
      go_wp2_with fail
      go_loop [3, 18] (fun vo vi => ∃ k : Nat, k ≤ n ∧ vi = .int .i64 (k : Int) ∧ vo = .int .i64 ((mtTo n k : Nat) : Int)) (fun _ x => (n - intOf x).toNat)
      case atStart => exact ⟨0, by omega, rfl, by simp [mtTo]⟩
      case round =>
        obtain ⟨k, hk, rfl, rfl⟩ := hrel
        have hs := HT.out k hk
        by_cases hlt : k < n
        · have hst : mtTo n (k + 1) = if n < 3 * k ∧ 3 * k ≤ 2 * n then mtTo n k ||| 2 ^ k else mtTo n k := rfl
          obtain ⟨s, hs'⟩ : ∃ s, s = mtTo n k := ⟨_, rfl⟩
          rw [← hs'] at hst hs ⊢
          obtain ⟨T, hT, hT1, hw, hor⟩ := or_one s k hs (by omega)
          rw [← hT] at hst
          by_cases hc1 : n < 3 * k
          · by_cases hc2 : 3 * k ≤ 2 * n
            · rw [if_pos ⟨hc1, hc2⟩] at hst
              have HST := Lib.hid hst
              have f1 : decide ((n : Int) < 3 * (k : Int)) = true := by simp; omega
              have f2 : decide (3 * (k : Int) ≤ 2 * (n : Int)) = true := by simp; omega
              clear hst hs' hT
              go_wp2_with fail
              go_round
              case rel => exact ⟨k + 1, by omega, by go_num, by rw [HST.out]⟩
              case measure => simp [intOf]; omega
            · rw [if_neg (fun h => hc2 h.2)] at hst
              have HST := Lib.hid hst
              have f1 : decide ((n : Int) < 3 * (k : Int)) = true := by simp; omega
              have f2 : decide (3 * (k : Int) ≤ 2 * (n : Int)) = false := by simp; omega
              clear hst hs' hT
              go_wp2_with fail
              go_round
              case rel => exact ⟨k + 1, by omega, by go_num, by rw [HST.out]⟩
              case measure => simp [intOf]; omega
          · rw [if_neg (fun h => hc1 h.1)] at hst
            have HST := Lib.hid hst
            have f1 : decide ((n : Int) < 3 * (k : Int)) = false := by simp; omega
            clear hst hs' hT
            go_wp2_with fail
            go_round
            case rel => exact ⟨k + 1, by omega, by go_num, by rw [HST.out]⟩
            case measure => simp [intOf]; omega
        · obtain rfl : k = n := by omega
          go_wp2_with fail
          go_ret
          exact ⟨rfl, hb1⟩
    · have e : mtV os = 0 := by simp [mtV, hg0, hlen]
      rw [e]
      have hne : ((os.length : Int) == 1) = false := by simp; omega
      clear e hlen g2 g3 g4 g5 g6 hg0
      go_enter Try.func21, Try.ntmps21
      go_wp2_with fail
      refine (C.out _ h1).mono ?_; rintro e w1 ⟨rfl, b1⟩
      have q1 := box_cell b1 (by simp)
      go_wp2_with fail
      go_ret
      exact ⟨rfl, nx hb0 b1⟩

set_option maxHeartbeats 1600000 in
theorem mid_spec (a0 : Option Addr) (c0 : Nat) (os : List Int) (w : World) (h0 : Ints w a0 c0 os) (hl : os.length ≤ 2000000) :
    Calls Try.prog 32 #[.agg #[.slice a0 os.length c0]] w fun e w' => e = .returned (.int .i64 (mtV os)) ∧ Below w.heap.size w w' := by
  have hb0 := (Below.refl w.heap.size w).alloc (Nat.le_refl _) (.cells #[.slice a0 os.length c0] 26)
  have h1 := h0.below hb0 (Nat.le_refl _)
  have C := Lib.hid (fun w h => isGroup_spec a0 c0 os w h hl)
  cases hg0 : grpB os with
  | false =>
    have e : mtV os = -1 := by simp [mtV, hg0]
    rw [e]
    rw [hg0] at C
    clear hg0 e
    go_enter Try.func32, Try.ntmps32
    go_wp2_with fail
    refine (C.out _ h1).mono ?_; rintro e w1 ⟨rfl, b1⟩
    go_wp2_with fail
    go_ret
    exact ⟨rfl, nx hb0 b1⟩
  | true =>
    obtain ⟨g2, g3, g4, g5, g6⟩ := grp_gn hg0
    have C2 := Lib.hid (fun w h => l2Order_any a0 c0 os w h hg0)
    rw [← g5] at C2
    rw [hg0] at C
    have HT := Lib.hid (fun n k (hk : k ≤ 24) => (mt24 (n := n) hk))
    have hlm : os.length ≤ 3 := (grp_parts hg0).1
    by_cases hlen : os.length = 1
    · have e : mtV os = (mtTo (gn os) (gn os) : Int) := by simp [mtV, hg0, hlen]
      rw [e]
      obtain ⟨n, hn⟩ : ∃ n, n = gn os := ⟨_, rfl⟩
      rw [← hn] at g3 g4 C2 ⊢
      have hne : ((os.length : Int) == 1) = true := by simp; omega
      clear e hlen hn g2 g5 g6 hg0
      go_enter Try.func32, Try.ntmps32
      go_wp2_with fail
      refine (C.out _ h1).mono ?_; rintro e w1 ⟨rfl, b1⟩
      have q1 := box_cell b1 (by simp)
      have z1 : w.heap.size < w1.heap.size := by have := b1.size; simp at this; omega
      have h2 := h1.below b1 (Nat.le_refl _)
      have hb1 := nx hb0 b1
      go_wp2_with fail
      refine (C2.out _ h2).mono ?_; rintro e w2 ⟨rfl, b2⟩
      have q2 := (b2.cell (p := ⟨w.heap.size, 0, none⟩) z1).trans q1
      have hb2 := nx hb1 b2
      clear b1 b2 hb0 hb1 h1 h2 h0 C C2 q1 z1
      go_wp2_with fail
      go_loop [4, 5] (fun vo vi => ∃ k : Nat, k ≤ n ∧ vi = .int .i64 (k : Int) ∧ vo = .int .i64 ((mtTo n k : Nat) : Int)) (fun _ x => (n - intOf x).toNat)
      case atStart => exact ⟨0, by omega, rfl, by simp [mtTo]⟩
      case round =>
        obtain ⟨k, hk, rfl, rfl⟩ := hrel
        have hs := HT.out n k (by omega)
        by_cases hlt : k < n
        · have hltb : decide ((k : Int) < (n : Int)) = true := by simp; omega
          have hst : mtTo n (k + 1) = if n < 3 * k ∧ 3 * k ≤ 2 * n then mtTo n k ||| 2 ^ k else mtTo n k := rfl
          obtain ⟨s, hs'⟩ : ∃ s, s = mtTo n k := ⟨_, rfl⟩
          rw [← hs'] at hst hs ⊢
          obtain ⟨T, hT, hT1, hw, hor⟩ := or_one s k hs (by omega)
          rw [← hT] at hst
          by_cases hc1 : n < 3 * k
          · by_cases hc2 : 3 * k ≤ 2 * n
            · rw [if_pos ⟨hc1, hc2⟩] at hst
              have HST := Lib.hid hst
              have f1 : decide ((n : Int) < 3 * (k : Int)) = true := by simp; omega
              have f2 : decide (3 * (k : Int) ≤ 2 * (n : Int)) = true := by simp; omega
              clear hst hs' hT
              go_wp2_with fail
              go_round
              case rel => exact ⟨k + 1, by omega, by go_num, by rw [HST.out]⟩
              case measure => simp [intOf]; omega
            · rw [if_neg (fun h => hc2 h.2)] at hst
              have HST := Lib.hid hst
              have f1 : decide ((n : Int) < 3 * (k : Int)) = true := by simp; omega
              have f2 : decide (3 * (k : Int) ≤ 2 * (n : Int)) = false := by simp; omega
              clear hst hs' hT
              go_wp2_with fail
              go_round
              case rel => exact ⟨k + 1, by omega, by go_num, by rw [HST.out]⟩
              case measure => simp [intOf]; omega
          · rw [if_neg (fun h => hc1 h.1)] at hst
            have HST := Lib.hid hst
            have f1 : decide ((n : Int) < 3 * (k : Int)) = false := by simp; omega
            clear hst hs' hT
            go_wp2_with fail
            go_round
            case rel => exact ⟨k + 1, by omega, by go_num, by rw [HST.out]⟩
            case measure => simp [intOf]; omega
        · obtain rfl : k = n := by omega
          have hltb : decide ((k : Int) < (k : Int)) = false := by simp
          go_wp2_with fail
          go_ret
          exact ⟨rfl, hb2⟩
    · have e : mtV os = 0 := by simp [mtV, hg0, hlen]
      rw [e]
      obtain ⟨n, hn⟩ : ∃ n, n = gn os := ⟨_, rfl⟩
      rw [← hn] at g3 g4 C2
      have hne : ((os.length : Int) == 1) = false := by simp; omega
      have hltb : decide ((0 : Int) < (n : Int)) = true := by simp; omega
      clear e hlen g2 g5 g6 hg0 hn
      go_enter Try.func32, Try.ntmps32
      go_wp2_with fail
      refine (C.out _ h1).mono ?_; rintro e w1 ⟨rfl, b1⟩
      have q1 := box_cell b1 (by simp)
      have z1 : w.heap.size < w1.heap.size := by have := b1.size; simp at this; omega
      have h2 := h1.below b1 (Nat.le_refl _)
      have hb1 := nx hb0 b1
      go_wp2_with fail
      refine (C2.out _ h2).mono ?_; rintro e w2 ⟨rfl, b2⟩
      have q2 := (b2.cell (p := ⟨w.heap.size, 0, none⟩) z1).trans q1
      go_wp2_with fail
      refine wp_loop_once ?_
      go_wp2_with fail
      go_ret
      exact ⟨rfl, nx hb1 b2⟩
end Go.Proofs.Ytbidkjhgodkamaa
