/-
Sets free of sums: contracts of l21Free, IsSumFree, l21Count and of both sides' LargestSumFree and CountSumFree. Conditions: lengths at most 2000000.
-/
import Derived.Test.YtbidkjhgodkamaaFst
import Derived.Test.YtbidkjhgodkamaaLgs
import Derived.Test.YtbidkjhgodkamaaCon
import Derived.Test.YtbidkjhgodkamaaDif
import Derived.Laws.EntriesVeiled
namespace Go.Proofs.Ytbidkjhgodkamaa
open Go.RowKit Go.ChangeShapes
set_option linter.unusedVariables false

/-- No sum of two elements is in the set. -/
def freeB (os : List Int) (a : Nat) : Bool := (sumS os a a &&& a) == 0
set_option maxHeartbeats 800000 in
theorem l21Free_any (a0 : Option Addr) (c0 : Nat) (os : List Int) (a : Nat) (w : World) (h0 : Ints w a0 c0 os) (hg0 : grpB os = true) (ha : a < 16777216) :
    Calls Try.prog 192 #[.agg #[.slice a0 os.length c0], .int .i64 a] w fun e w' => e = .returned (.bool (freeB os a)) ∧ Below w.heap.size w w' := by
  have hb0 := (Below.refl w.heap.size w).alloc (Nat.le_refl _) (.cells #[.slice a0 os.length c0] 26)
  have h1 := h0.below hb0 (Nat.le_refl _)
  have C := Lib.hid (fun w h => l4Sum_any a0 c0 os a a w h hg0 (by omega) (by omega))
  have hsl : sumS os a a < 16777216 := by simpa using sumS_lt hg0 a a
  have hz := and_zero (sumS os a a) a (by omega) (by omega)
  unfold freeB
  obtain ⟨s, hs⟩ : ∃ s, s = sumS os a a := ⟨_, rfl⟩
  rw [← hs] at C hsl hz ⊢
  obtain ⟨q, hq⟩ : ∃ q, q = (s &&& a == 0) := ⟨_, rfl⟩
  rw [← hq] at hz ⊢
  clear hs hq hg0
  go_enter Try.func192, Try.ntmps192
  go_wp2_with fail
  refine (C.out _ h1).mono ?_; rintro e w1 ⟨rfl, b1⟩
  go_wp2_with fail
  go_ret
  exact ⟨ret_bool (by first | rfl | exact hz), nx hb0 b1⟩

set_option maxHeartbeats 800000 in
theorem isSumFree_impl (a0 : Option Addr) (c0 : Nat) (os : List Int) (a : Nat) (w : World) (h0 : Ints w a0 c0 os) (hl : os.length ≤ 2000000) (hg0 : grpB os = true) (ha : a < setT os) :
    Calls Try.prog 15 #[.agg #[.slice a0 os.length c0], .int .i64 a] w fun e w' => e = .returned (.bool (freeB os a)) ∧ Below w.heap.size w w' := by
  have hb0 := (Below.refl w.heap.size w).alloc (Nat.le_refl _) (.cells #[.slice a0 os.length c0] 26)
  have h1 := h0.below hb0 (Nat.le_refl _)
  have hT := setT_bd hg0
  have hsb : setB os (a : Int) = true := by simp [setB, hg0]; omega
  have CS := Lib.hid (fun w h => isSet_impl a0 c0 os (a : Int) w h hl)
  rw [hsb] at CS
  have C := Lib.hid (fun w h => sum_any a0 c0 os a a w h hg0 (by omega) (by omega))
  have hsl : sumS os a a < 16777216 := by simpa using sumS_lt hg0 a a
  have hz := and_zero (sumS os a a) a (by omega) (by omega)
  unfold freeB
  obtain ⟨s, hs⟩ : ∃ s, s = sumS os a a := ⟨_, rfl⟩
  rw [← hs] at C hsl hz ⊢
  obtain ⟨q, hq⟩ : ∃ q, q = (s &&& a == 0) := ⟨_, rfl⟩
  rw [← hq] at hz ⊢
  have ha24 : a < 16777216 := by omega
  clear hs hq hg0 hsb hT ha
  go_enter Try.func15, Try.ntmps15
  go_wp2_with fail
  refine (CS.out _ h1).mono ?_; rintro e w1 ⟨rfl, b1⟩
  have hbox := box_cell b1 (by simp)
  have h2 := h1.below b1 (Nat.le_refl _)
  go_wp2_with fail
  refine (C.out _ h2).mono ?_; rintro e w2 ⟨rfl, b2⟩
  go_wp2_with fail
  go_ret
  exact ⟨ret_bool (by first | rfl | exact hz), nx (nx hb0 b1) b2⟩

set_option maxRecDepth 20000 in
set_option maxHeartbeats 3200000 in
theorem l21Count_any (P : Nat → Bool) (N : Nat) (os : List Int) (a0 : Option Addr) (c0 : Nat) (hN : N ≤ 24) (hg0 : grpB os = true) (hNo : gord os = (N : Int))
    (CP : Hid (∀ (b : Nat) w, b < 2 ^ N → Ints w a0 c0 os → Calls Try.prog 192 #[.agg #[.slice a0 os.length c0], .int .i64 (b : Int)] w fun e w' => e = .returned (.bool (P b)) ∧ Below w.heap.size w w'))
    : ∀ (f fr a : Nat) (r : Int) (w : World), N - fr = f → cnGo P N (N - fr) a 1 = r → fr ≤ N → a < 2 ^ fr → Ints w a0 c0 os →
    Calls Try.prog 190 #[.agg #[.slice a0 os.length c0], .int .i64 (a : Int), .int .i64 (fr : Int)] w fun e w' => e = .returned (.int .i64 r) ∧ Below w.heap.size w w' := by
  have CO := Lib.hid (fun w h => l2Order_any a0 c0 os w h hg0)
  rw [hNo] at CO
  clear hg0 hNo
  intro f
  induction f using Nat.strongRecOn with
  | ind f ih =>
  intro fr a r w hf hr hfn ha h0
  have IH := Lib.hid ih
  have HF := Lib.hid hf
  have HR := Lib.hid hr
  have HA := Lib.hid ha
  have h24 : (2 : Nat) ^ N ≤ 16777216 := by
    have := Nat.pow_le_pow_right (n := 2) (by decide) hN
    simpa using this
  have h24f : (2 : Nat) ^ (N - fr) ≤ 16777216 := by
    have := Nat.pow_le_pow_right (n := 2) (by decide) (show N - fr ≤ 24 by omega)
    simpa using this
  have haN : a < 2 ^ N := Nat.lt_of_lt_of_le ha (Nat.pow_le_pow_right (by decide) hfn)
  have ha24 : a < 16777216 := by omega
  have H24 := Lib.hid h24
  have HST : Hid ((1 : Int) + (2 ^ (N - fr) : Nat) ≤ 33554433) := Lib.hid (by omega)
  have hb0 := (Below.refl w.heap.size w).alloc (Nat.le_refl _) (.cells #[.slice a0 os.length c0] 26)
  clear ih hf hr ha haN h24 h24f
  go_enter Try.func190, Try.ntmps190
  go_wp2_with fail
  go_loopw [7, 8] (fun vb x wr => ∃ (d : Nat) (b : Int), d + fr ≤ N ∧ x = .int .i64 ((N - d : Nat) : Int) ∧ vb = .int .i64 b ∧ 1 ≤ b ∧ Hid (b + (2 ^ d : Nat) ≤ 33554433) ∧ Hid (cnGo P N d a b = r) ∧ Below w.heap.size w wr ∧ wr.cell? ⟨w.heap.size, 0, none⟩ = some (.slice a0 os.length c0) ∧ w.heap.size < wr.heap.size) (fun _ x _ => (N - intOf x).toNat)
  case atStart => exact ⟨N - fr, 1, by omega, by rw [show N - (N - fr) = fr by omega], rfl, by omega, HST, HR, hb0, by simp [go_sem], by simp⟩
  case round =>
    obtain ⟨d, b, hd, rfl, rfl, hbl, HBL, HG, hbel, hbox, z0⟩ := hrel
    have h1 := h0.below hbel (Nat.le_refl _)
    match d, hd, HG, HBL with
    | 0, hd, HG, HBL =>
      have e : b = r := HG.out
      subst e
      rw [Nat.sub_zero]
      clear HG HR
      go_wp2_with fail
      refine (CO.out _ h1).mono ?_; rintro e w1 ⟨rfl, b1⟩
      go_wp2_with fail
      go_ret
      exact ⟨rfl, nx hbel b1⟩
    | d + 1, hd, HG, HBL =>
      obtain ⟨x, hx⟩ : ∃ x, x = N - (d + 1) := ⟨_, rfl⟩
      have hxn : x + d + 1 ≤ N ∧ N ≤ x + d + 1 := by omega
      have hfx : fr ≤ x := by omega
      have hax : a < 2 ^ x := Nat.lt_of_lt_of_le HA.out (Nat.pow_le_pow_right (by decide) hfx)
      have hcx := or_bit_lt hax
      have hcN : a ||| 2 ^ x < 2 ^ N := Nat.lt_of_lt_of_le hcx (Nat.pow_le_pow_right (by decide) (by omega))
      have h24x : (2 : Nat) ^ x ≤ 16777216 := by
        have := Nat.pow_le_pow_right (n := 2) (by decide) (show x ≤ 24 by omega)
        simpa using this
      have hgo : cnGo P N d a (if P (a ||| 2 ^ x) = true then b + cnGo P N d (a ||| 2 ^ x) 1 else b) = r := by rw [hx]; exact HG.out
      obtain ⟨g1, g2⟩ := cnGo_bd P N d (a ||| 2 ^ x) 1
      obtain ⟨p, hpp⟩ : ∃ p, p = 2 ^ d := ⟨_, rfl⟩
      have hp2 : b + (2 * p : Nat) ≤ 33554433 := by rw [hpp]; have := HBL.out; rw [Nat.pow_succ] at this; omega
      have hp0 : 0 < p := by rw [hpp]; exact Nat.two_pow_pos d
      rw [← hpp] at g2
      have HPP := Lib.hid hpp
      rw [← hx]
      have hlt : (x : Int) < N := by omega
      have hw : IntKind.i64.wrap (2 ^ x) = ((2 ^ x : Nat) : Int) := by rw [pow_wrap62 x (by omega)]; simp
      have hor : bits .or .i64 (a : Int) ((2 ^ x : Nat) : Int) = ((a ||| 2 ^ x : Nat) : Int) := or_nat _ _ (by omega) (by omega)
      obtain ⟨T, hT⟩ : ∃ T, T = 2 ^ x := ⟨_, rfl⟩
      have hcx' : a ||| 2 ^ x < 2 ^ (x + 1) := hcx
      rw [← hT] at hgo hcN hw hor hcx' h24x g1 g2
      obtain ⟨c, hc⟩ : ∃ c, c = a ||| T := ⟨_, rfl⟩
      rw [← hc] at hgo hcN hor hcx' g1 g2
      have hc24 : c < 16777216 := by have := H24.out; omega
      have HCN := Lib.hid hcN
      have HCX := Lib.hid hcx'
      have hxN : x + 1 ≤ N := by omega
      clear hx HG HBL hax hcx hcN hcx' hT hc hpp
      go_wp2_with fail
      refine (CO.out _ h1).mono ?_; rintro e w1 ⟨rfl, b1⟩
      have h2 := h1.below b1 (Nat.le_refl _)
      have hbox1 := (b1.cell (p := ⟨w.heap.size, 0, none⟩) z0).trans hbox
      have z1 := Nat.lt_of_lt_of_le z0 b1.size
      have hbel1 := nx hbel b1
      have CP1 := Lib.hid (CP.out c w1 HCN.out h2)
      clear b1 hbox z0 hbel h1
      cases hP : P c with
      | false =>
        rw [hP] at hgo CP1
        have HGO : Hid (cnGo P N d a b = r) := Lib.hid hgo
        clear hgo hP g1 g2
        go_wp2_with fail
        refine CP1.out.mono ?_; rintro e w2 ⟨rfl, b2⟩
        have hbox2 := (b2.cell (p := ⟨w.heap.size, 0, none⟩) z1).trans hbox1
        have z2 := Nat.lt_of_lt_of_le z1 b2.size
        have hbel2 := nx hbel1 b2
        clear b2 hbox1 z1 hbel1 CP1 h2
        go_wp2_with fail
        go_roundw
        case rel => exact ⟨d, b, by omega, by rw [show N - d = x + 1 by omega]; go_num, rfl, hbl, Lib.hid (by rw [← HPP.out]; omega), HGO, hbel2, hbox2, z2⟩
        case measure => simp [intOf]; omega
      | true =>
        rw [hP] at hgo CP1
        have hgo' : cnGo P N d a (b + cnGo P N d c 1) = r := hgo
        obtain ⟨y, hy⟩ : ∃ y, y = cnGo P N d c 1 := ⟨_, rfl⟩
        rw [← hy] at hgo' g1 g2
        have HGO := Lib.hid hgo'
        have HY := Lib.hid hy
        have g3 : b + y + p ≤ 33554433 := by omega
        clear hgo hgo' hP hy
        go_wp2_with fail
        refine CP1.out.mono ?_; rintro e w2 ⟨rfl, b2⟩
        have h3 := h2.below b2 (Nat.le_refl _)
        have hbox2 := (b2.cell (p := ⟨w.heap.size, 0, none⟩) z1).trans hbox1
        have z2 := Nat.lt_of_lt_of_le z1 b2.size
        have hbel2 := nx hbel1 b2
        have CI := Lib.hid (IH.out d (by have := HF.out; omega) (x + 1) c y w2 (by omega) (by rw [show N - (x + 1) = d by omega]; exact HY.out.symm) (by omega) HCX.out h3)
        rw [show ((x + 1 : Nat) : Int) = (x : Int) + 1 by omega] at CI
        clear b2 hbox1 z1 hbel1 CP1 h2 h3
        go_wp2_with fail
        refine CI.out.mono ?_; rintro e w3 ⟨rfl, b3⟩
        have hbox3 := (b3.cell (p := ⟨w.heap.size, 0, none⟩) z2).trans hbox2
        have z3 := Nat.lt_of_lt_of_le z2 b3.size
        have hbel3 := nx hbel2 b3
        clear b3 hbox2 z2 hbel2 CI
        go_wp2_with fail
        go_roundw
        case rel => exact ⟨d, b + y, by omega, by rw [show N - d = x + 1 by omega]; go_num, rfl, by omega, Lib.hid (by rw [← HPP.out]; omega), HGO, hbel3, hbox3, z3⟩
        case measure => simp [intOf]; omega

theorem LargestSumFree_cl (gp : Nat) (a0 : Option Addr) (c0 : Nat) (os : List Int) (b : Nat) (w : World) (h0 : Ints w a0 c0 os) (hl : os.length ≤ 2000000) (hg0 : grpB os = true) (hb : b < setT os) (hc : w.cell? ⟨gp, 0, none⟩ = some (.slice a0 os.length c0)) :
    Calls Try.prog 172 #[.int .i64 (b : Int), .pointer (some ⟨gp, 0, none⟩)] w fun e w' => e = .returned (.bool (freeB os b)) ∧ Below w.heap.size w w' := by
  have C := Lib.hid (isSumFree_impl a0 c0 os b w h0 hl hg0 hb)
  obtain ⟨q, hq⟩ : ∃ q, q = freeB os b := ⟨_, rfl⟩
  rw [← hq] at C ⊢
  clear hq hb hg0
  go_enter Try.func172, Try.ntmps172
  go_wp2_with fail
  refine C.out.mono ?_; rintro e w1 ⟨rfl, b1⟩
  go_wp2_with fail
  go_ret
  exact ⟨rfl, b1⟩

theorem CountSumFree_cl (gp : Nat) (a0 : Option Addr) (c0 : Nat) (os : List Int) (b : Nat) (w : World) (h0 : Ints w a0 c0 os) (hl : os.length ≤ 2000000) (hg0 : grpB os = true) (hb : b < setT os) (hc : w.cell? ⟨gp, 0, none⟩ = some (.slice a0 os.length c0)) :
    Calls Try.prog 187 #[.int .i64 (b : Int), .pointer (some ⟨gp, 0, none⟩)] w fun e w' => e = .returned (.bool (freeB os b)) ∧ Below w.heap.size w w' := by
  have C := Lib.hid (isSumFree_impl a0 c0 os b w h0 hl hg0 hb)
  obtain ⟨q, hq⟩ : ∃ q, q = freeB os b := ⟨_, rfl⟩
  rw [← hq] at C ⊢
  clear hq hb hg0
  go_enter Try.func187, Try.ntmps187
  go_wp2_with fail
  refine C.out.mono ?_; rintro e w1 ⟨rfl, b1⟩
  go_wp2_with fail
  go_ret
  exact ⟨rfl, b1⟩

theorem lt24_of {N b : Nat} (hN : N ≤ 24) (h : b < 2 ^ N) : b < 16777216 := by
  have := Nat.pow_le_pow_right (n := 2) (by decide) hN
  have e : (2 : Nat) ^ 24 = 16777216 := by decide
  omega
theorem mems_one : mems 1 = [0] := by decide
theorem free_one {os : List Int} (h : grpB os = true) : freeB os (0 ||| 2 ^ 0) = false := by
  obtain ⟨g2, g3, g4, g5, g6⟩ := grp_gn h
  have e : (sumS os 1 1).testBit 0 = true := by
    rw [sumS_bit, mems_one]
    simp [gadd_zero g2 0 g3]
  have e2 : (sumS os 1 1 &&& 1).testBit 0 = true := by rw [Nat.testBit_and, e]; rfl
  unfold freeB
  show (sumS os 1 1 &&& 1 == 0) = false
  cases hz : (sumS os 1 1 &&& 1 == 0) with
  | false => rfl
  | true =>
    rw [beq_iff_eq] at hz
    rw [hz] at e2
    simp at e2
theorem lg_free {os : List Int} (h : grpB os = true) : lgGo (freeB os) (gn os) (gn os) 0 0 = lgGo (freeB os) (gn os) (gn os - 1) 0 0 := by
  obtain ⟨g2, g3, g4, g5, g6⟩ := grp_gn h
  obtain ⟨d, hd⟩ : ∃ d, gn os = d + 1 := ⟨gn os - 1, by omega⟩
  have e := free_one h
  rw [hd]
  show lgGo (freeB os) (d + 1) d 0 _ = _
  rw [show d + 1 - (d + 1) = 0 by omega, e]
  rfl
theorem cn_free {os : List Int} (h : grpB os = true) : cnGo (freeB os) (gn os) (gn os) 0 1 = cnGo (freeB os) (gn os) (gn os - 1) 0 1 := by
  obtain ⟨g2, g3, g4, g5, g6⟩ := grp_gn h
  obtain ⟨d, hd⟩ : ∃ d, gn os = d + 1 := ⟨gn os - 1, by omega⟩
  have e := free_one h
  rw [hd]
  show cnGo (freeB os) (d + 1) d 0 _ = _
  rw [show d + 1 - (d + 1) = 0 by omega, e]
  rfl

def bLargestSumFree (os : List Int) : Bool := grpB os && decide (gn os ≤ 16)
/-- What LargestSumFree hands back. -/
def lvLargestSumFree (os : List Int) : Nat := if bLargestSumFree os = true then lgGo (freeB os) (gn os) (gn os - 1) 0 0 else 0

set_option maxHeartbeats 1600000 in
theorem LargestSumFree_spec (a0 : Option Addr) (c0 : Nat) (os : List Int) (w : World) (h0 : Ints w a0 c0 os) (hl : os.length ≤ 2000000) :
    Calls Try.prog 14 #[.agg #[.slice a0 os.length c0]] w fun e w' => e = .returned (.tuple #[.int .i64 (lvLargestSumFree os : Int), .bool (bLargestSumFree os)]) ∧ Below w.heap.size w w' := by
  have hb0 := (Below.refl w.heap.size w).alloc (Nat.le_refl _) (.cells #[.slice a0 os.length c0] 26)
  have h1 := h0.below hb0 (Nat.le_refl _)
  have C := Lib.hid (fun w h => isGroup_spec a0 c0 os w h hl)
  cases hg0 : grpB os with
  | false =>
    have e1 : bLargestSumFree os = false := by simp [bLargestSumFree, hg0]
    have e2 : lvLargestSumFree os = 0 := by simp [lvLargestSumFree, e1]
    rw [e1, e2]
    rw [hg0] at C
    clear hg0 e1 e2
    go_enter Try.func14, Try.ntmps14
    go_wp2_with fail
    refine (C.out _ h1).mono ?_; rintro e w1 ⟨rfl, b1⟩
    go_wp2_with fail
    go_ret2
    exact ⟨rfl, nx hb0 b1⟩
  | true =>
    obtain ⟨g2, g3, g4, g5, g6⟩ := grp_gn hg0
    rw [hg0] at C
    have C2 := Lib.hid (fun w h => l2Order_any a0 c0 os w h hg0)
    rw [← g5] at C2
    by_cases hm : gn os ≤ 16
    · have e1 : bLargestSumFree os = true := by simp [bLargestSumFree, hg0, hm]
      have e2 : lvLargestSumFree os = lgGo (freeB os) (gn os) (gn os - 1) 0 0 := by rw [lvLargestSumFree, if_pos e1]
      have CR := Lib.hid (fun w h => l21Largest_any (freeB os) (gn os) os a0 c0 g4 hg0 g5.symm (Lib.hid (fun b w hb h => l21Free_any a0 c0 os b w h hg0 (lt24_of g4 hb))) (gn os - 1) 1 0 (lvLargestSumFree os) w rfl e2.symm (by omega) (by decide) h)
      rw [e1]
      obtain ⟨v, hv⟩ : ∃ v, v = lvLargestSumFree os := ⟨_, rfl⟩
      rw [← hv] at CR ⊢
      obtain ⟨N, hN⟩ : ∃ N, N = gn os := ⟨_, rfl⟩
      rw [← hN] at C2 hm g3
      clear e1 e2 hv g2 g4 g5 g6 hN hg0
      go_enter Try.func14, Try.ntmps14
      go_wp2_with fail
      refine (C.out _ h1).mono ?_; rintro e w1 ⟨rfl, b1⟩
      have q1 := box_cell b1 (by simp)
      have z1 : w.heap.size < w1.heap.size := by have := b1.size; simp at this; omega
      have h2 := h1.below b1 (Nat.le_refl _)
      have hb1 := nx hb0 b1
      go_wp2_with fail
      refine (C2.out _ h2).mono ?_; rintro e w2 ⟨rfl, b2⟩
      have q2 := (b2.cell (p := ⟨w.heap.size, 0, none⟩) z1).trans q1
      have h3 := h2.below b2 (Nat.le_refl _)
      have hb2 := nx hb1 b2
      clear C C2 h0 h1 h2 hb0 hb1 b1 b2 q1 z1
      go_wp2_with fail
      refine (CR.out _ h3).mono ?_; rintro e w3 ⟨rfl, b3⟩
      go_wp2_with fail
      go_ret2
      exact ⟨rfl, nx hb2 b3⟩
    · have e1 : bLargestSumFree os = false := by simp [bLargestSumFree, hm]
      have e2 : lvLargestSumFree os = 0 := by simp [lvLargestSumFree, e1]
      rw [e1, e2]
      obtain ⟨N, hN⟩ : ∃ N, N = gn os := ⟨_, rfl⟩
      rw [← hN] at C2 hm g4
      clear e1 e2 g2 g3 g5 g6 hN hg0
      go_enter Try.func14, Try.ntmps14
      go_wp2_with fail
      refine (C.out _ h1).mono ?_; rintro e w1 ⟨rfl, b1⟩
      have q1 := box_cell b1 (by simp)
      have h2 := h1.below b1 (Nat.le_refl _)
      have hb1 := nx hb0 b1
      go_wp2_with fail
      refine (C2.out _ h2).mono ?_; rintro e w2 ⟨rfl, b2⟩
      go_wp2_with fail
      go_ret2
      exact ⟨rfl, nx hb1 b2⟩

set_option maxHeartbeats 1600000 in
theorem LargestSumFree_impl (a0 : Option Addr) (c0 : Nat) (os : List Int) (w : World) (h0 : Ints w a0 c0 os) (hl : os.length ≤ 2000000) :
    Calls Try.prog 13 #[.agg #[.slice a0 os.length c0]] w fun e w' => e = .returned (.tuple #[.int .i64 (lvLargestSumFree os : Int), .bool (bLargestSumFree os)]) ∧ Below w.heap.size w w' := by
  have hb0 := (Below.refl w.heap.size w).alloc (Nat.le_refl _) (.cells #[.slice a0 os.length c0] 26)
  have h1 := h0.below hb0 (Nat.le_refl _)
  have C := Lib.hid (fun w h => isGroup_impl a0 c0 os w h hl)
  cases hg0 : grpB os with
  | false =>
    have e1 : bLargestSumFree os = false := by simp [bLargestSumFree, hg0]
    have e2 : lvLargestSumFree os = 0 := by simp [lvLargestSumFree, e1]
    rw [e1, e2]
    rw [hg0] at C
    clear hg0 e1 e2
    go_enter Try.func13, Try.ntmps13
    go_wp2_with fail
    refine (C.out _ h1).mono ?_; rintro e w1 ⟨rfl, b1⟩
    go_wp2_with fail
    go_ret2
    exact ⟨rfl, nx hb0 b1⟩
  | true =>
    obtain ⟨g2, g3, g4, g5, g6⟩ := grp_gn hg0
    rw [hg0] at C
    have C2 := Lib.hid (fun w h => orderOf_impl a0 c0 os w h hl)
    rw [show ordV os = gord os by simp [ordV, hg0], ← g5] at C2
    by_cases hm : gn os ≤ 16
    · have e1 : bLargestSumFree os = true := by simp [bLargestSumFree, hg0, hm]
      have e2 : lvLargestSumFree os = lgGo (freeB os) (gn os) (gn os - 1) 0 0 := by rw [lvLargestSumFree, if_pos e1]
      have e3 : (fsGo (freeB os) (gn os) (gn os) 0 0 ⟨0, 0, 1⟩).best = lvLargestSumFree os := by
        rw [(fsGo_best (freeB os) (gn os) (by omega) (gn os) 0 0 ⟨0, 0, 1⟩ (Nat.le_refl _) (by simp) (by simp [popc_zero]) (by simp [FS.ok, popc_zero])).2, e2]
        exact lg_free hg0
      have hbd : lvLargestSumFree os < 16777216 := by
        rw [e2]
        have h1 := lgGo_lt (freeB os) (gn os) (gn os - 1) 0 0 (by omega) (Nat.two_pow_pos _) (Nat.two_pow_pos _)
        have h2 := Nat.pow_le_pow_right (n := 2) (by decide) g4
        have h3 : (2 : Nat) ^ 24 = 16777216 := by decide
        omega
      have CF := Lib.hid (fun w2 co cp => first_any (freeB os) (gn os) os w2 172 w.heap.size a0 c0 g4 co Try.call172 cp)
      have CC := Lib.hid (fun b w2 h hb hc => LargestSumFree_cl w.heap.size a0 c0 os b w2 h hl hg0 hb hc)
      rw [g6] at CC
      rw [e3] at CF
      rw [e1]
      obtain ⟨v, hv⟩ : ∃ v, v = lvLargestSumFree os := ⟨_, rfl⟩
      rw [← hv] at CF hbd ⊢
      obtain ⟨P, hP⟩ : ∃ P, P = freeB os := ⟨_, rfl⟩
      rw [← hP] at CF CC
      obtain ⟨N, hN⟩ : ∃ N, N = gn os := ⟨_, rfl⟩
      rw [← hN] at CF CC C2 hm g3
      clear e1 e2 e3 hv g2 g4 g5 g6 hN hg0 hP
      go_enter Try.func13, Try.ntmps13
      go_wp2_with fail
      refine (C.out _ h1).mono ?_; rintro e w1 ⟨rfl, b1⟩
      have q1 := box_cell b1 (by simp)
      have z1 : w.heap.size < w1.heap.size := by have := b1.size; simp at this; omega
      have h2 := h1.below b1 (Nat.le_refl _)
      have hb1 := nx hb0 b1
      go_wp2_with fail
      refine (C2.out _ h2).mono ?_; rintro e w2 ⟨rfl, b2⟩
      have q2 := (b2.cell (p := ⟨w.heap.size, 0, none⟩) z1).trans q1
      have z2 := Nat.lt_of_lt_of_le z1 b2.size
      have h3 := h2.below b2 (Nat.le_refl _)
      have hb2 := nx hb1 b2
      have CA := Lib.hid (fun w' (hb : Below w2.heap.size w2 w') => C2.out w' (h3.below hb (Nat.le_refl _)))
      have CD := Lib.hid (fun b w' (hbN : b < 2 ^ N) (hb : Below w2.heap.size w2 w') => CC.out b w' (h3.below hb (Nat.le_refl _)) hbN ((hb.cell (p := ⟨w.heap.size, 0, none⟩) z2).trans q2))
      have CF2 := Lib.hid (CF.out w2 CA CD)
      clear CF CC C C2 h0 h1 h2 h3 hb0 hb1 b1 b2 q1 z1
      go_wp2_with fail
      refine CF2.out.mono ?_; rintro e w3 ⟨rfl, b3⟩
      clear CF2
      go_wp2_with fail
      go_ret2
      exact ⟨rfl, nx hb2 b3⟩
    · have e1 : bLargestSumFree os = false := by simp [bLargestSumFree, hm]
      have e2 : lvLargestSumFree os = 0 := by simp [lvLargestSumFree, e1]
      rw [e1, e2]
      obtain ⟨N, hN⟩ : ∃ N, N = gn os := ⟨_, rfl⟩
      rw [← hN] at C2 hm g4
      clear e1 e2 g2 g3 g5 g6 hN hg0
      go_enter Try.func13, Try.ntmps13
      go_wp2_with fail
      refine (C.out _ h1).mono ?_; rintro e w1 ⟨rfl, b1⟩
      have q1 := box_cell b1 (by simp)
      have h2 := h1.below b1 (Nat.le_refl _)
      have hb1 := nx hb0 b1
      go_wp2_with fail
      refine (C2.out _ h2).mono ?_; rintro e w2 ⟨rfl, b2⟩
      go_wp2_with fail
      go_ret2
      exact ⟨rfl, nx hb1 b2⟩

def bCountSumFree (os : List Int) : Bool := grpB os && decide (gn os ≤ 16)
/-- What CountSumFree hands back. -/
def lvCountSumFree (os : List Int) : Int := if bCountSumFree os = true then cnGo (freeB os) (gn os) (gn os - 1) 0 1 else -1

set_option maxHeartbeats 1600000 in
theorem CountSumFree_spec (a0 : Option Addr) (c0 : Nat) (os : List Int) (w : World) (h0 : Ints w a0 c0 os) (hl : os.length ≤ 2000000) :
    Calls Try.prog 29 #[.agg #[.slice a0 os.length c0]] w fun e w' => e = .returned (.int .i64 (lvCountSumFree os)) ∧ Below w.heap.size w w' := by
  have hb0 := (Below.refl w.heap.size w).alloc (Nat.le_refl _) (.cells #[.slice a0 os.length c0] 26)
  have h1 := h0.below hb0 (Nat.le_refl _)
  have C := Lib.hid (fun w h => isGroup_spec a0 c0 os w h hl)
  cases hg0 : grpB os with
  | false =>
    have e1 : bCountSumFree os = false := by simp [bCountSumFree, hg0]
    have e2 : lvCountSumFree os = -1 := by simp [lvCountSumFree, e1]
    rw [e2]
    rw [hg0] at C
    clear hg0 e1 e2
    go_enter Try.func29, Try.ntmps29
    go_wp2_with fail
    refine (C.out _ h1).mono ?_; rintro e w1 ⟨rfl, b1⟩
    go_wp2_with fail
    go_ret
    exact ⟨rfl, nx hb0 b1⟩
  | true =>
    obtain ⟨g2, g3, g4, g5, g6⟩ := grp_gn hg0
    rw [hg0] at C
    have C2 := Lib.hid (fun w h => l2Order_any a0 c0 os w h hg0)
    rw [← g5] at C2
    by_cases hm : gn os ≤ 16
    · have e1 : bCountSumFree os = true := by simp [bCountSumFree, hg0, hm]
      have e2 : lvCountSumFree os = cnGo (freeB os) (gn os) (gn os - 1) 0 1 := by rw [lvCountSumFree, if_pos e1]
      have CR := Lib.hid (fun w h => l21Count_any (freeB os) (gn os) os a0 c0 g4 hg0 g5.symm (Lib.hid (fun b w hb h => l21Free_any a0 c0 os b w h hg0 (lt24_of g4 hb))) (gn os - 1) 1 0 (lvCountSumFree os) w rfl e2.symm (by omega) (by decide) h)
      
      obtain ⟨v, hv⟩ : ∃ v, v = lvCountSumFree os := ⟨_, rfl⟩
      rw [← hv] at CR ⊢
      obtain ⟨N, hN⟩ : ∃ N, N = gn os := ⟨_, rfl⟩
      rw [← hN] at C2 hm g3
      clear e1 e2 hv g2 g4 g5 g6 hN hg0
      go_enter Try.func29, Try.ntmps29
      go_wp2_with fail
      refine (C.out _ h1).mono ?_; rintro e w1 ⟨rfl, b1⟩
      have q1 := box_cell b1 (by simp)
      have z1 : w.heap.size < w1.heap.size := by have := b1.size; simp at this; omega
      have h2 := h1.below b1 (Nat.le_refl _)
      have hb1 := nx hb0 b1
      go_wp2_with fail
      refine (C2.out _ h2).mono ?_; rintro e w2 ⟨rfl, b2⟩
      have q2 := (b2.cell (p := ⟨w.heap.size, 0, none⟩) z1).trans q1
      have h3 := h2.below b2 (Nat.le_refl _)
      have hb2 := nx hb1 b2
      clear C C2 h0 h1 h2 hb0 hb1 b1 b2 q1 z1
      go_wp2_with fail
      refine (CR.out _ h3).mono ?_; rintro e w3 ⟨rfl, b3⟩
      go_wp2_with fail
      go_ret
      exact ⟨rfl, nx hb2 b3⟩
    · have e1 : bCountSumFree os = false := by simp [bCountSumFree, hm]
      have e2 : lvCountSumFree os = -1 := by simp [lvCountSumFree, e1]
      rw [e2]
      obtain ⟨N, hN⟩ : ∃ N, N = gn os := ⟨_, rfl⟩
      rw [← hN] at C2 hm g4
      clear e1 e2 g2 g3 g5 g6 hN hg0
      go_enter Try.func29, Try.ntmps29
      go_wp2_with fail
      refine (C.out _ h1).mono ?_; rintro e w1 ⟨rfl, b1⟩
      have q1 := box_cell b1 (by simp)
      have h2 := h1.below b1 (Nat.le_refl _)
      have hb1 := nx hb0 b1
      go_wp2_with fail
      refine (C2.out _ h2).mono ?_; rintro e w2 ⟨rfl, b2⟩
      go_wp2_with fail
      go_ret
      exact ⟨rfl, nx hb1 b2⟩

set_option maxHeartbeats 1600000 in
theorem CountSumFree_impl (a0 : Option Addr) (c0 : Nat) (os : List Int) (w : World) (h0 : Ints w a0 c0 os) (hl : os.length ≤ 2000000) :
    Calls Try.prog 24 #[.agg #[.slice a0 os.length c0]] w fun e w' => e = .returned (.int .i64 (lvCountSumFree os)) ∧ Below w.heap.size w w' := by
  have hb0 := (Below.refl w.heap.size w).alloc (Nat.le_refl _) (.cells #[.slice a0 os.length c0] 26)
  have h1 := h0.below hb0 (Nat.le_refl _)
  have C := Lib.hid (fun w h => isGroup_impl a0 c0 os w h hl)
  cases hg0 : grpB os with
  | false =>
    have e1 : bCountSumFree os = false := by simp [bCountSumFree, hg0]
    have e2 : lvCountSumFree os = -1 := by simp [lvCountSumFree, e1]
    rw [e2]
    rw [hg0] at C
    clear hg0 e1 e2
    go_enter Try.func24, Try.ntmps24
    go_wp2_with fail
    refine (C.out _ h1).mono ?_; rintro e w1 ⟨rfl, b1⟩
    go_wp2_with fail
    go_ret
    exact ⟨rfl, nx hb0 b1⟩
  | true =>
    obtain ⟨g2, g3, g4, g5, g6⟩ := grp_gn hg0
    rw [hg0] at C
    have C2 := Lib.hid (fun w h => orderOf_impl a0 c0 os w h hl)
    rw [show ordV os = gord os by simp [ordV, hg0], ← g5] at C2
    by_cases hm : gn os ≤ 16
    · have e1 : bCountSumFree os = true := by simp [bCountSumFree, hg0, hm]
      have e2 : lvCountSumFree os = cnGo (freeB os) (gn os) (gn os - 1) 0 1 := by rw [lvCountSumFree, if_pos e1]
      have e3 : (fsGo (freeB os) (gn os) (gn os) 0 0 ⟨0, 0, 1⟩).count = lvCountSumFree os := by
        rw [fsGo_count, e2]
        exact cn_free hg0
      have CF := Lib.hid (fun w2 co cp => first_any (freeB os) (gn os) os w2 187 w.heap.size a0 c0 g4 co Try.call187 cp)
      have CC := Lib.hid (fun b w2 h hb hc => CountSumFree_cl w.heap.size a0 c0 os b w2 h hl hg0 hb hc)
      rw [g6] at CC
      rw [e3] at CF
      
      obtain ⟨v, hv⟩ : ∃ v, v = lvCountSumFree os := ⟨_, rfl⟩
      rw [← hv] at CF ⊢
      obtain ⟨P, hP⟩ : ∃ P, P = freeB os := ⟨_, rfl⟩
      rw [← hP] at CF CC
      obtain ⟨N, hN⟩ : ∃ N, N = gn os := ⟨_, rfl⟩
      rw [← hN] at CF CC C2 hm g3
      clear e1 e2 e3 hv g2 g4 g5 g6 hN hg0 hP
      go_enter Try.func24, Try.ntmps24
      go_wp2_with fail
      refine (C.out _ h1).mono ?_; rintro e w1 ⟨rfl, b1⟩
      have q1 := box_cell b1 (by simp)
      have z1 : w.heap.size < w1.heap.size := by have := b1.size; simp at this; omega
      have h2 := h1.below b1 (Nat.le_refl _)
      have hb1 := nx hb0 b1
      go_wp2_with fail
      refine (C2.out _ h2).mono ?_; rintro e w2 ⟨rfl, b2⟩
      have q2 := (b2.cell (p := ⟨w.heap.size, 0, none⟩) z1).trans q1
      have z2 := Nat.lt_of_lt_of_le z1 b2.size
      have h3 := h2.below b2 (Nat.le_refl _)
      have hb2 := nx hb1 b2
      have CA := Lib.hid (fun w' (hb : Below w2.heap.size w2 w') => C2.out w' (h3.below hb (Nat.le_refl _)))
      have CD := Lib.hid (fun b w' (hbN : b < 2 ^ N) (hb : Below w2.heap.size w2 w') => CC.out b w' (h3.below hb (Nat.le_refl _)) hbN ((hb.cell (p := ⟨w.heap.size, 0, none⟩) z2).trans q2))
      have CF2 := Lib.hid (CF.out w2 CA CD)
      clear CF CC C C2 h0 h1 h2 h3 hb0 hb1 b1 b2 q1 z1
      go_wp2_with fail
      refine CF2.out.mono ?_; rintro e w3 ⟨rfl, b3⟩
      clear CF2
      go_wp2_with fail
      go_ret
      exact ⟨rfl, nx hb2 b3⟩
    · have e1 : bCountSumFree os = false := by simp [bCountSumFree, hm]
      have e2 : lvCountSumFree os = -1 := by simp [lvCountSumFree, e1]
      rw [e2]
      obtain ⟨N, hN⟩ : ∃ N, N = gn os := ⟨_, rfl⟩
      rw [← hN] at C2 hm g4
      clear e1 e2 g2 g3 g5 g6 hN hg0
      go_enter Try.func24, Try.ntmps24
      go_wp2_with fail
      refine (C.out _ h1).mono ?_; rintro e w1 ⟨rfl, b1⟩
      have q1 := box_cell b1 (by simp)
      have h2 := h1.below b1 (Nat.le_refl _)
      have hb1 := nx hb0 b1
      go_wp2_with fail
      refine (C2.out _ h2).mono ?_; rintro e w2 ⟨rfl, b2⟩
      go_wp2_with fail
      go_ret
      exact ⟨rfl, nx hb1 b2⟩
end Go.Proofs.Ytbidkjhgodkamaa
