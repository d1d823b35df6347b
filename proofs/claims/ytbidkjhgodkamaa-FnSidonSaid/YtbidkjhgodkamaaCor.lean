/-
Contracts of both sides' CorrelationOf at sets of a group, and of IsDifferenceSet. Conditions: lengths at most 2000000.
-/
import Derived.Test.YtbidkjhgodkamaaTab
import Derived.Deep.QuietTactic
import Derived.BigQuiet
namespace Go.Proofs.Ytbidkjhgodkamaa
open Go.RowKit Go.ChangeShapes
set_option linter.unusedVariables false

def oppS (os : List Int) (b : Nat) : Nat := orL (gneg os) (mems b)
theorem oppS_gn {os : List Int} (hg : grpB os = true) {b : Nat} (hb : b < 18446744073709551616) : oppS os b < 2 ^ gn os := by
  apply Nat.lt_pow_two_of_testBit
  intro i hi
  cases h : (oppS os b).testBit i with
  | false => rfl
  | true =>
    obtain ⟨p, _, e⟩ := (orL_iff hb i).1 h
    have := gneg_lt' (grp_gn hg).1 p
    omega
/-- The table of differences. -/
def cor (os : List Int) (a b : Nat) : List Int := tbl os a (oppS os b)
theorem tbl_len (os : List Int) (a b : Nat) : (tbl os a b).length = gn os := by
  unfold tbl; rw [tabT_len]; simp
theorem cor_len (os : List Int) (a b : Nat) : (cor os a b).length = gn os := tbl_len _ _ _

set_option maxRecDepth 20000 in
set_option maxHeartbeats 1600000 in
theorem cor_impl (a0 : Option Addr) (c0 : Nat) (os : List Int) (a b : Nat) (w : World) (h0 : Ints w a0 c0 os) (hl : os.length ≤ 2000000) (hg0 : grpB os = true) (ha : a < setT os) (hb : b < setT os) :
    Calls Try.prog 204 #[.agg #[.slice a0 os.length c0], .int .i64 a, .int .i64 b] w (GaveI w (cor os a b)) := by
  have hb0 := (Below.refl w.heap.size w).alloc (Nat.le_refl _) (.cells #[.slice a0 os.length c0] 26)
  have h1 := h0.below hb0 (Nat.le_refl _)
  obtain ⟨g2, g3, g4, g5, g6⟩ := grp_gn hg0
  have hT := setT_bd hg0
  have hsa : setB os (a : Int) = true := by simp [setB, hg0]; omega
  have hsb : setB os (b : Int) = true := by simp [setB, hg0]; omega
  have CN := Lib.hid (fun w h => (show Calls Try.prog 265 #[.agg #[.slice a0 os.length c0], .int .i64 b] w fun e w' => e = .returned (.int .i64 (oppS os b : Int)) ∧ Below w.heap.size w w' from opposite_any a0 c0 os b w h hg0 (by omega)))
  have hop := oppS_gn hg0 (b := b) (by omega)
  rw [← g6] at hop
  have CT := Lib.hid (fun w h => sumTable_impl a0 c0 os a (oppS os b) w h hl hg0 ha hop)
  unfold cor
  obtain ⟨r, hr⟩ : ∃ r, r = tbl os a (oppS os b) := ⟨_, rfl⟩
  rw [← hr] at CT ⊢
  obtain ⟨o, ho⟩ : ∃ o, o = oppS os b := ⟨_, rfl⟩
  rw [← ho] at CN CT hop
  have CS := Lib.hid (fun a1 c1 w h h' => areSets_any a0 c0 os a1 c1 [(a : Int), (b : Int)] w h h' hl (by simp))
  rw [show asB os [(a : Int), (b : Int)] = true by simp [asB, hsa, hsb, hg0]] at CS
  have ha24 : a < 16777216 := by omega
  have hb24 : b < 16777216 := by omega
  have ho24 : o < 16777216 := by omega
  clear hr ho g2 g3 g4 g5 g6 hg0 hsa hsb hT ha hb hop
  go_enter Try.func204, Try.ntmps204
  go_wp2_with fail
  refine (CS.out _ _ _ ?ha ?hb).mono ?_
  case ha => exact h1.below ((Below.refl _ _).alloc (Nat.le_refl _) _) (Nat.le_refl _)
  case hb => exact Ints.lit2 (by simp) _ _ (wf_of (by omega) (by omega)) (wf_of (by omega) (by omega))
  rintro e w1 ⟨rfl, b1⟩
  have q1 : w1.cell? ⟨w.heap.size, 0, none⟩ = some (.slice a0 os.length c0) := by rw [b1.cell (p := ⟨w.heap.size, 0, none⟩) (by simp; omega)]; simp [go_sem]
  have z1 : w.heap.size < w1.heap.size := by have := b1.size; simp at this; omega
  have hb1 := (hb0.alloc (by simp) _).trans (b1.mono (by simp; omega))
  have h2 := h0.below hb1 (Nat.le_refl _)
  clear b1 hb0 h1
  go_wp2_with fail
  go_region_held3 (fun w' => w'.cell? ⟨w.heap.size, 0, none⟩ = some (.slice a0 os.length c0)) (assumption) (first
    | (go_at_call 265; refine (CN.out _ h2.drew).mono ?_; rintro e w2 ⟨rfl, b2⟩; have h3 := h2.below (below_undrew b2) (Nat.le_refl _); have q2 := (b2.cell (p := ⟨w.heap.size, 0, none⟩) z1).trans q1; have z2 := Nat.lt_of_lt_of_le z1 b2.size)
    | (go_at_call 264; refine (CT.out _ h3).mono ?_; rintro e w3 ⟨at1, ct1, rfl, o3, b3⟩; have q3 := (b3.cell (p := ⟨w.heap.size, 0, none⟩) z2).trans q2))
  go_wp2_with fail
  have hbf := nx hb1 (below_undrew b2)
  go_ret
  exact ⟨_, _, rfl, o3.mono hbf.size, nx hbf b3⟩

set_option maxRecDepth 20000 in
set_option maxHeartbeats 1600000 in
theorem cor_spec (a0 : Option Addr) (c0 : Nat) (os : List Int) (a b : Nat) (w : World) (h0 : Ints w a0 c0 os) (hl : os.length ≤ 2000000) (hg0 : grpB os = true) (ha : a < setT os) (hb : b < setT os) :
    Calls Try.prog 205 #[.agg #[.slice a0 os.length c0], .int .i64 a, .int .i64 b] w (GaveI w (cor os a b)) := by
  have hb0 := (Below.refl w.heap.size w).alloc (Nat.le_refl _) (.cells #[.slice a0 os.length c0] 26)
  have h1 := h0.below hb0 (Nat.le_refl _)
  obtain ⟨g2, g3, g4, g5, g6⟩ := grp_gn hg0
  have hT := setT_bd hg0
  have hsa : setB os (a : Int) = true := by simp [setB, hg0]; omega
  have hsb : setB os (b : Int) = true := by simp [setB, hg0]; omega
  have CN := Lib.hid (fun w h => (show Calls Try.prog 266 #[.agg #[.slice a0 os.length c0], .int .i64 b] w fun e w' => e = .returned (.int .i64 (oppS os b : Int)) ∧ Below w.heap.size w w' from l3Negate_any a0 c0 os b w h hg0 (by omega)))
  have hop := oppS_gn hg0 (b := b) (by omega)
  rw [← g6] at hop
  have CT := Lib.hid (fun w h => sumTable_spec a0 c0 os a (oppS os b) w h hl hg0 ha hop)
  unfold cor
  obtain ⟨r, hr⟩ : ∃ r, r = tbl os a (oppS os b) := ⟨_, rfl⟩
  rw [← hr] at CT ⊢
  obtain ⟨o, ho⟩ : ∃ o, o = oppS os b := ⟨_, rfl⟩
  rw [← ho] at CN CT hop
  have CSA := Lib.hid (fun w h => isSet_spec a0 c0 os (a : Int) w h hl)
  rw [hsa] at CSA
  have CSB := Lib.hid (fun w h => isSet_spec a0 c0 os (b : Int) w h hl)
  rw [hsb] at CSB
  have ha24 : a < 16777216 := by omega
  have hb24 : b < 16777216 := by omega
  have ho24 : o < 16777216 := by omega
  clear hr ho g2 g3 g4 g5 g6 hg0 hsa hsb hT ha hb hop
  go_enter Try.func205, Try.ntmps205
  go_wp2_with fail
  refine (CSA.out _ h1).mono ?_; rintro e w1 ⟨rfl, b1⟩
  have q1' := box_cell b1 (by simp)
  have z1' : w.heap.size < w1.heap.size := by have := b1.size; simp at this; omega
  have h2' := h1.below b1 (Nat.le_refl _)
  have hb1' := nx hb0 b1
  clear b1 hb0 h1
  go_wp2_with fail
  refine (CSB.out _ h2').mono ?_; rintro e w1 ⟨rfl, b1⟩
  have q1 := (b1.cell (p := ⟨w.heap.size, 0, none⟩) z1').trans q1'
  have z1 := Nat.lt_of_lt_of_le z1' b1.size
  have h2 := h2'.below b1 (Nat.le_refl _)
  have hb1 := nx hb1' b1
  clear b1 q1' z1' h2' hb1'
  go_wp2_with fail
  go_region_held3 (fun w' => w'.cell? ⟨w.heap.size, 0, none⟩ = some (.slice a0 os.length c0)) (assumption) (first
    | (go_at_call 266; refine (CN.out _ h2.drew).mono ?_; rintro e w2 ⟨rfl, b2⟩; have h3 := h2.below (below_undrew b2) (Nat.le_refl _); have q2 := (b2.cell (p := ⟨w.heap.size, 0, none⟩) z1).trans q1; have z2 := Nat.lt_of_lt_of_le z1 b2.size)
    | (go_at_call 197; refine (CT.out _ h3).mono ?_; rintro e w3 ⟨at1, ct1, rfl, o3, b3⟩; have q3 := (b3.cell (p := ⟨w.heap.size, 0, none⟩) z2).trans q2))
  go_wp2_with fail
  have hbf := nx hb1 (below_undrew b2)
  go_ret
  exact ⟨_, _, rfl, o3.mono hbf.size, nx hbf b3⟩

def dsP (os : List Int) (a : Nat) : Prop := ∀ i, 2 ≤ i → i < gn os → (cor os a a).getD i 0 = (cor os a a).getD 1 0
open Classical in
noncomputable def dsB (os : List Int) (a : Int) : Bool := setB os a && (decide (2 ≤ gn os) && decide (dsP os a.toNat))
noncomputable def dsV (os : List Int) (a : Int) : Int := if dsB os a = true then (cor os a.toNat a.toNat).getD 1 0 else 0

set_option maxRecDepth 20000 in
set_option maxHeartbeats 1600000 in
theorem ids_impl (a0 : Option Addr) (c0 : Nat) (os : List Int) (a : Int) (w : World) (h0 : Ints w a0 c0 os) (hl : os.length ≤ 2000000) :
    Calls Try.prog 44 #[.agg #[.slice a0 os.length c0], .int .i64 a] w fun e w' => e = .returned (.tuple #[.int .i64 (dsV os a), .bool (dsB os a)]) ∧ Below w.heap.size w w' := by
  have hb0 := (Below.refl w.heap.size w).alloc (Nat.le_refl _) (.cells #[.slice a0 os.length c0] 26)
  have h1 := h0.below hb0 (Nat.le_refl _)
  have C := Lib.hid (fun w h => isSet_impl a0 c0 os a w h hl)
  cases hs : setB os a with
  | false =>
    have e1 : dsB os a = false := by simp [dsB, hs]
    have e2 : dsV os a = 0 := by simp [dsV, e1]
    rw [e1, e2]
    rw [hs] at C
    clear hs e1 e2
    go_enter Try.func44, Try.ntmps44
    go_wp2_with fail
    refine (C.out _ h1).mono ?_; rintro e w1 ⟨rfl, b1⟩
    go_wp2_with fail
    go_ret2
    exact ⟨rfl, nx hb0 b1⟩
  | true =>
    rw [hs] at C
    obtain ⟨hg0, m, rfl, hm⟩ := setB_parts hs
    obtain ⟨g2, g3, g4, g5, g6⟩ := grp_gn hg0
    have C2 := Lib.hid (fun w h => orderOf_impl a0 c0 os w h hl)
    rw [show ordV os = gord os by simp [ordV, hg0], ← g5] at C2
    by_cases h2n : 2 ≤ gn os
    · have e : ∃ v r, dsV os (m : Int) = v ∧ dsB os (m : Int) = r ∧ ((dsP os m ∧ r = true ∧ v = (cor os m m).getD 1 0) ∨ (¬ dsP os m ∧ r = false ∧ v = 0)) := by
        by_cases hp : dsP os m
        · have e1 : dsB os (m : Int) = true := by simp [dsB, hs, h2n, hp]
          exact ⟨(cor os m m).getD 1 0, true, by rw [dsV, if_pos e1]; rfl, e1, .inl ⟨hp, rfl, rfl⟩⟩
        · have e1 : dsB os (m : Int) = false := by simp [dsB, hp]
          exact ⟨0, false, by simp [dsV, e1], e1, .inr ⟨hp, rfl, rfl⟩⟩
      obtain ⟨v, r, e1, e2, hr⟩ := e
      rw [e1, e2]
      have CC := Lib.hid (fun w h => cor_impl a0 c0 os m m w h hl hg0 hm hm)
      have hlen := cor_len os m m
      have HDP : Hid (dsP os m ↔ ∀ i, 2 ≤ i → i < gn os → (cor os m m).getD i 0 = (cor os m m).getD 1 0) := Lib.hid Iff.rfl
      obtain ⟨t, ht⟩ : ∃ t, t = cor os m m := ⟨_, rfl⟩
      rw [← ht] at CC hlen HDP hr
      obtain ⟨n, hn⟩ : ∃ n, n = gn os := ⟨_, rfl⟩
      rw [← hn] at C2 h2n g4 hlen HDP
      have HR := Lib.hid hr
      have HLE := Lib.hid hlen
      have hle1 : t.length ≤ n ∧ n ≤ t.length := by omega
      have hm24 : m < 16777216 := by have := (setT_bd hg0).2; omega
      clear hs e1 e2 hr ht hn g2 g3 g5 g6 hg0 hm hlen
      go_enter Try.func44, Try.ntmps44
      go_wp2_with fail
      refine (C.out _ h1).mono ?_; rintro e w1 ⟨rfl, b1⟩
      have q1 := box_cell b1 (by simp)
      have z1 : w.heap.size < w1.heap.size := by have := b1.size; simp at this; omega
      have h2 := h1.below b1 (Nat.le_refl _)
      have hb1 := nx hb0 b1
      go_wp2_with fail
      refine (C2.out _ h2).mono ?_; rintro e w2 ⟨rfl, b2⟩
      have q2 := (b2.cell (p := ⟨w.heap.size, 0, none⟩) z1).trans q1
      have z2 := Nat.lt_of_lt_of_le z1 b2.size
      have h3 := h2.below b2 (Nat.le_refl _)
      have hb2 := nx hb1 b2
      clear b1 b2 q1 z1 h1 h2 hb0 hb1 C C2
      go_wp2_with fail
      refine (CC.out _ h3).mono ?_; rintro e w3 ⟨a1, c1, rfl, o3, b3⟩
      have hb3 := nx hb2 b3
      obtain ⟨hcap, -, -, -, hcs⟩ := o3.ints
      rcases hcs with hcs | ⟨b, off, rfl, hbB, hcell⟩
      · rw [hcs] at hle1; simp at hle1; omega
      have HC := Lib.hid (fun i (hi : i < t.length) => (hcell i hi).trans (by rw [show t[i] = t.getD i 0 by simp [List.getD, hi]]))
      have d1 := HC.out 1 (by omega)
      obtain ⟨u, hu⟩ : ∃ u, u = t.getD 1 0 := ⟨_, rfl⟩
      rw [← hu] at d1 HR HDP
      have hpos : (1 : Int) < t.length := by omega
      have hpos2 : 1 < t.length := by omega
      have hc1 : 1 ≤ c1 := by omega
      have HK0 : Hid (t.getD (1 + 0) 0 = u) := Lib.hid (by rw [hu])
      clear hcell b3 hb2 h3 z2 hu
      go_wp2_with fail
      go_loop [25] (fun vi => ∃ k : Nat, k ≤ t.length - 1 ∧ vi = .int .i64 (k : Int) ∧ Hid (∀ i, i < k → t.getD (1 + i) 0 = u)) (fun i => (t.length - 1 - (intOf i).toNat))
      case atStart => exact ⟨0, by omega, rfl, Lib.hid (fun _ h => by omega)⟩
      case round =>
        obtain ⟨k, hk, rfl, HI⟩ := hrel
        by_cases hlt : k < t.length - 1
        · have d2 := HC.out (1 + k) (by omega)
          rw [← Nat.add_assoc] at d2
          have HNX : Hid (t.getD (1 + k) 0 = u → ∀ i, i < k + 1 → t.getD (1 + i) 0 = u) := Lib.hid (fun h i hi => by
            by_cases e : i = k
            · subst e; exact h
            · exact HI.out i (by omega))
          have HNO : Hid (t.getD (1 + k) 0 ≠ u → r = false ∧ v = 0) := Lib.hid (fun h => by
            rcases HR.out with ⟨hp, _⟩ | ⟨_, e⟩
            · by_cases e : k = 0
              · subst e
                exfalso; apply h
                have := HDP.out.1 hp
                exact HK0.out
              · exact absurd (HDP.out.1 hp (1 + k) (by omega) (by have := HLE.out; omega)) h
            · exact e)
          obtain ⟨x, hx⟩ : ∃ x, x = t.getD (1 + k) 0 := ⟨_, rfl⟩
          rw [← hx] at d2 HNX HNO
          clear hx
          have hkl : (k : Int) < (t.length : Int) - 1 := by omega
          by_cases hxu : x = u
          · have hbq : (x != u) = false := by simp [hxu]
            have HN := Lib.hid (HNX.out hxu)
            clear HNX HNO HI hxu
            go_wp2_with fail
            go_round
            case rel => exact ⟨k + 1, by omega, by go_num, HN⟩
            case measure => simp [intOf]; omega
          · have hbq : (x != u) = true := by simpa using hxu
            obtain ⟨e1, e2⟩ := HNO.out hxu
            subst e1
            subst e2
            clear HNX HNO HI hxu HR
            go_wp2_with fail
            go_ret2
            exact ⟨rfl, hb3⟩
        · have e : r = true ∧ v = u := by
            rcases HR.out with ⟨_, e⟩ | ⟨hp, _⟩
            · exact e
            · exact absurd (HDP.out.2 (fun i h2 h3 => by
                have := HI.out (i - 1) (by have := HLE.out; omega)
                rwa [show 1 + (i - 1) = i by omega] at this)) hp
          obtain ⟨e1, e2⟩ := e
          subst e1
          subst e2
          clear HI HR HDP
          go_wp2_with fail
          go_ret2
          exact ⟨rfl, hb3⟩
    · have e1 : dsB os (m : Int) = false := by simp [dsB, h2n]
      have e2 : dsV os (m : Int) = 0 := by simp [dsV, e1]
      rw [e1, e2]
      obtain ⟨n, hn⟩ : ∃ n, n = gn os := ⟨_, rfl⟩
      rw [← hn] at C2 h2n g3
      clear hs e1 e2 g2 g4 g5 g6 hn hg0 hm
      go_enter Try.func44, Try.ntmps44
      go_wp2_with fail
      refine (C.out _ h1).mono ?_; rintro e w1 ⟨rfl, b1⟩
      have q1 := box_cell b1 (by simp)
      have h2 := h1.below b1 (Nat.le_refl _)
      have hb1 := nx hb0 b1
      go_wp2_with fail
      refine (C2.out _ h2).mono ?_; rintro e w2 ⟨rfl, b2⟩
      go_wp2_with fail
      go_ret2
      exact ⟨rfl, nx hb1 b2⟩

set_option maxRecDepth 20000 in
set_option maxHeartbeats 1600000 in
theorem ids_spec (a0 : Option Addr) (c0 : Nat) (os : List Int) (a : Int) (w : World) (h0 : Ints w a0 c0 os) (hl : os.length ≤ 2000000) :
    Calls Try.prog 46 #[.agg #[.slice a0 os.length c0], .int .i64 a] w fun e w' => e = .returned (.tuple #[.int .i64 (dsV os a), .bool (dsB os a)]) ∧ Below w.heap.size w w' := by
  have hb0 := (Below.refl w.heap.size w).alloc (Nat.le_refl _) (.cells #[.slice a0 os.length c0] 26)
  have h1 := h0.below hb0 (Nat.le_refl _)
  have C := Lib.hid (fun w h => isSet_spec a0 c0 os a w h hl)
  cases hs : setB os a with
  | false =>
    have e1 : dsB os a = false := by simp [dsB, hs]
    have e2 : dsV os a = 0 := by simp [dsV, e1]
    rw [e1, e2]
    rw [hs] at C
    clear hs e1 e2
    go_enter Try.func46, Try.ntmps46
    go_wp2_with fail
    refine (C.out _ h1).mono ?_; rintro e w1 ⟨rfl, b1⟩
    go_wp2_with fail
    go_ret2
    exact ⟨rfl, nx hb0 b1⟩
  | true =>
    rw [hs] at C
    obtain ⟨hg0, m, rfl, hm⟩ := setB_parts hs
    obtain ⟨g2, g3, g4, g5, g6⟩ := grp_gn hg0
    have C2 := Lib.hid (fun w h => l2Order_any a0 c0 os w h hg0)
    rw [← g5] at C2
    by_cases h2n : 2 ≤ gn os
    · have e : ∃ v r, dsV os (m : Int) = v ∧ dsB os (m : Int) = r ∧ ((dsP os m ∧ r = true ∧ v = (cor os m m).getD 1 0) ∨ (¬ dsP os m ∧ r = false ∧ v = 0)) := by
        by_cases hp : dsP os m
        · have e1 : dsB os (m : Int) = true := by simp [dsB, hs, h2n, hp]
          exact ⟨(cor os m m).getD 1 0, true, by rw [dsV, if_pos e1]; rfl, e1, .inl ⟨hp, rfl, rfl⟩⟩
        · have e1 : dsB os (m : Int) = false := by simp [dsB, hp]
          exact ⟨0, false, by simp [dsV, e1], e1, .inr ⟨hp, rfl, rfl⟩⟩
      obtain ⟨v, r, e1, e2, hr⟩ := e
      rw [e1, e2]
      have CC := Lib.hid (fun w h => cor_spec a0 c0 os m m w h hl hg0 hm hm)
      have hlen := cor_len os m m
      have HDP : Hid (dsP os m ↔ ∀ i, 2 ≤ i → i < gn os → (cor os m m).getD i 0 = (cor os m m).getD 1 0) := Lib.hid Iff.rfl
      obtain ⟨t, ht⟩ : ∃ t, t = cor os m m := ⟨_, rfl⟩
      rw [← ht] at CC hlen HDP hr
      obtain ⟨n, hn⟩ : ∃ n, n = gn os := ⟨_, rfl⟩
      rw [← hn] at C2 h2n g4 hlen HDP
      have HR := Lib.hid hr
      have HLE := Lib.hid hlen
      have hle1 : t.length ≤ n ∧ n ≤ t.length := by omega
      have hm24 : m < 16777216 := by have := (setT_bd hg0).2; omega
      clear hs e1 e2 hr ht hn g2 g3 g5 g6 hg0 hm hlen
      go_enter Try.func46, Try.ntmps46
      go_wp2_with fail
      refine (C.out _ h1).mono ?_; rintro e w1 ⟨rfl, b1⟩
      have q1 := box_cell b1 (by simp)
      have z1 : w.heap.size < w1.heap.size := by have := b1.size; simp at this; omega
      have h2 := h1.below b1 (Nat.le_refl _)
      have hb1 := nx hb0 b1
      go_wp2_with fail
      refine (C2.out _ h2).mono ?_; rintro e w2 ⟨rfl, b2⟩
      have q2 := (b2.cell (p := ⟨w.heap.size, 0, none⟩) z1).trans q1
      have z2 := Nat.lt_of_lt_of_le z1 b2.size
      have h3 := h2.below b2 (Nat.le_refl _)
      have hb2 := nx hb1 b2
      clear b1 b2 q1 z1 h1 h2 hb0 hb1 C C2
      go_wp2_with fail
      refine (CC.out _ h3).mono ?_; rintro e w3 ⟨a1, c1, rfl, o3, b3⟩
      have hb3 := nx hb2 b3
      obtain ⟨hcap, -, -, -, hcs⟩ := o3.ints
      rcases hcs with hcs | ⟨b, off, rfl, hbB, hcell⟩
      · rw [hcs] at hle1; simp at hle1; omega
      have HC := Lib.hid (fun i (hi : i < t.length) => (hcell i hi).trans (by rw [show t[i] = t.getD i 0 by simp [List.getD, hi]]))
      have d1 := HC.out 1 (by omega)
      obtain ⟨u, hu⟩ : ∃ u, u = t.getD 1 0 := ⟨_, rfl⟩
      rw [← hu] at d1 HR HDP
      have hpos : (1 : Int) < t.length := by omega
      have hpos2 : 1 < t.length := by omega
      have hc1 : 1 ≤ c1 := by omega
      clear hcell b3 hb2 h3 z2 hu
      go_wp2_with fail
      go_loopw [7] (fun vi wr => ∃ k : Nat, 2 ≤ k ∧ k ≤ t.length ∧ vi = .int .i64 (k : Int) ∧ Hid (∀ i, 2 ≤ i → i < k → t.getD i 0 = u) ∧ Below w3.heap.size w3 wr) (fun i _ => (t.length - (intOf i).toNat))
      case atStart => exact ⟨2, by omega, by omega, rfl, Lib.hid (fun _ _ h => by omega), Below.refl _ _⟩
      case round =>
        obtain ⟨k, hk2, hk, rfl, HI, hbel⟩ := hrel
        have d3 := (hbel.cell (p := ⟨b, off + 1, none⟩) hbB).trans d1
        by_cases hlt : k < t.length
        · have d2 := (hbel.cell (p := ⟨b, off + k, none⟩) hbB).trans (HC.out k hlt)
          have HNX : Hid (t.getD k 0 = u → ∀ i, 2 ≤ i → i < k + 1 → t.getD i 0 = u) := Lib.hid (fun h i h2 hi => by
            by_cases e : i = k
            · subst e; exact h
            · exact HI.out i h2 (by omega))
          have HNO : Hid (t.getD k 0 ≠ u → r = false ∧ v = 0) := Lib.hid (fun h => by
            rcases HR.out with ⟨hp, _⟩ | ⟨_, e⟩
            · exact absurd (HDP.out.1 hp k hk2 (by have := HLE.out; omega)) h
            · exact e)
          obtain ⟨x, hx⟩ : ∃ x, x = t.getD k 0 := ⟨_, rfl⟩
          rw [← hx] at d2 HNX HNO
          clear hx
          have hkl : (k : Int) < t.length := by omega
          by_cases hxu : x = u
          · have hbq : (x != u) = false := by simp [hxu]
            have HN := Lib.hid (HNX.out hxu)
            clear HNX HNO HI hxu
            go_wp2_with fail
            go_quiet (fail)
            go_wp2_with fail
            go_roundw
            case rel => exact ⟨k + 1, by omega, by omega, by go_num, HN, below_drewN hbel _⟩
            case measure => simp [intOf]; omega
          · have hbq : (x != u) = true := by simpa using hxu
            obtain ⟨e1, e2⟩ := HNO.out hxu
            subst e1
            subst e2
            clear HNX HNO HI hxu HR
            go_wp2_with fail
            go_quiet (fail)
            go_wp2_with fail
            go_ret2
            exact ⟨rfl, nx hb3 (below_drewN hbel _)⟩
        · have e : r = true ∧ v = u := by
            rcases HR.out with ⟨_, e⟩ | ⟨hp, _⟩
            · exact e
            · exact absurd (HDP.out.2 (fun i h2 h3 => HI.out i h2 (by have := HLE.out; omega))) hp
          obtain ⟨e1, e2⟩ := e
          subst e1
          subst e2
          clear HI HR HDP
          go_wp2_with fail
          go_ret2
          exact ⟨rfl, nx hb3 hbel⟩
    · have e1 : dsB os (m : Int) = false := by simp [dsB, h2n]
      have e2 : dsV os (m : Int) = 0 := by simp [dsV, e1]
      rw [e1, e2]
      obtain ⟨n, hn⟩ : ∃ n, n = gn os := ⟨_, rfl⟩
      rw [← hn] at C2 h2n g3
      clear hs e1 e2 g2 g4 g5 g6 hn hg0 hm
      go_enter Try.func46, Try.ntmps46
      go_wp2_with fail
      refine (C.out _ h1).mono ?_; rintro e w1 ⟨rfl, b1⟩
      have q1 := box_cell b1 (by simp)
      have h2 := h1.below b1 (Nat.le_refl _)
      have hb1 := nx hb0 b1
      go_wp2_with fail
      refine (C2.out _ h2).mono ?_; rintro e w2 ⟨rfl, b2⟩
      go_wp2_with fail
      go_ret2
      exact ⟨rfl, nx hb1 b2⟩
end Go.Proofs.Ytbidkjhgodkamaa
