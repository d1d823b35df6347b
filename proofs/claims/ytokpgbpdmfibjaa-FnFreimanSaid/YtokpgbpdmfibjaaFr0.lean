/-
Several texts in one: Contract of the reference's SumOfSets. Conditions: at most 2000000 orders. Sets free of sums: contracts of l21Free, IsSumFree, l21Count and of both sides' LargestSumFree and CountSumFree. Conditions: lengths at most 2000000. Contracts for all arguments: both sides' IsSumFree, CountSet, IsPrimeOrder. Conditions: lists of at most 2000000 orders. Contract of the program's CountFreimanMaps. Conditions: at most 2000000 orders. Contract of the reference's CountFreimanMaps. Conditions: at most 2000000 orders. Sets that are alike have as many sums, the same energy, and are both sets of Sidon or not; plain. No condition. Contracts of both sides' FreimanRank. Conditions: lengths at most 2000000. Facts for FnFreiman: isomorphism is symmetric, counts are at least the order, ranks at most the length; ListOf. Conditions: groups of at most 2000000 orders. Contract of the reference's EnergyOf at sets of a group: the sum of the squares of the table (with the bounds of Sdq, so that few files are needed). Conditions: a group of at most 2000000 orders, sets of it.
-/
import Derived.Test.YtokpgbpdmfibjaaAlg
import Derived.Test.YtokpgbpdmfibjaaFst
import Derived.Test.YtokpgbpdmfibjaaLgs
import Derived.Test.YtokpgbpdmfibjaaCon
import Derived.Test.YtokpgbpdmfibjaaDif
import Derived.Laws.EntriesVeiled
import Derived.Test.YtokpgbpdmfibjaaCmi
import Derived.Test.YtokpgbpdmfibjaaCms
import Derived.Deep.RegionHeld3
import Derived.Test.YtokpgbpdmfibjaaFfl
import Derived.Test.YtokpgbpdmfibjaaCmp
import Derived.Test.YtokpgbpdmfibjaaSid
import Derived.Test.YtokpgbpdmfibjaaDrw2
import Derived.Test.YtokpgbpdmfibjaaTtp
import Derived.Deep.QuietTactic
import Derived.BigQuiet
namespace Go.Proofs.Ytokpgbpdmfibjaa
open Go.RowKit Go.ChangeShapes
set_option linter.unusedVariables false

theorem setB_bd {os : List Int} {a : Int} (h : setB os a = true) : ∃ m : Nat, a = (m : Int) ∧ m < setT os ∧ m < 16777216 ∧ grpB os = true ∧ m < 2 ^ gn os ∧ gn os ≤ 24 := by
  obtain ⟨hg, m, rfl, hm⟩ := setB_parts h
  have hT := setT_bd hg
  obtain ⟨g2, g3, g4, g5, g6⟩ := grp_gn hg
  exact ⟨m, rfl, hm, by omega, hg, hm, g4⟩
/-- What SumOfSets returns. -/
def sosV (os : List Int) (a b : Int) : Int := if setB os a = true ∧ setB os b = true then (sumS os b.toNat a.toNat : Int) else -1
theorem sosV_of {os : List Int} {a b : Nat} (ha : setB os (a : Int) = true) (hb : setB os (b : Int) = true) : sosV os (a : Int) (b : Int) = (sumS os a b : Int) := by
  obtain ⟨m, h1, h2, h3, hg, h4, h5⟩ := setB_bd ha
  obtain ⟨k, h6, h7, h8, _, h9, h10⟩ := setB_bd hb
  unfold sosV
  rw [if_pos ⟨ha, hb⟩, Int.toNat_natCast, Int.toNat_natCast, sumS_comm]
set_option maxHeartbeats 1600000 in
theorem sos_spec (a0 : Option Addr) (c0 : Nat) (os : List Int) (a b : Int) (w : World) (h0 : Ints w a0 c0 os) (hl : os.length ≤ 2000000) :
    Calls Try.prog 18 #[.agg #[.slice a0 os.length c0], .int .i64 a, .int .i64 b] w fun e w' => e = .returned (.int .i64 (sosV os a b)) ∧ Below w.heap.size w w' := by
  have hb0 := (Below.refl w.heap.size w).alloc (Nat.le_refl _) (.cells #[.slice a0 os.length c0] 26)
  have h1 := h0.below hb0 (Nat.le_refl _)
  have CA := Lib.hid (fun w h => isSet_spec a0 c0 os a w h hl)
  have CB := Lib.hid (fun w h => isSet_spec a0 c0 os b w h hl)
  cases hsa : setB os a with
  | false =>
    rw [hsa] at CA
    have e : sosV os a b = -1 := by simp [sosV, hsa]
    rw [e]
    clear hsa e
    go_enter Try.func18, Try.ntmps18
    go_wp2_with fail
    refine (CA.out _ h1).mono ?_; rintro e w1 ⟨rfl, b1⟩
    go_wp2_with fail
    go_ret
    exact ⟨rfl, nx hb0 b1⟩
  | true =>
    rw [hsa] at CA
    cases hsb : setB os b with
    | false =>
      rw [hsb] at CB
      have e : sosV os a b = -1 := by simp [sosV, hsb]
      rw [e]
      clear hsa hsb e
      go_enter Try.func18, Try.ntmps18
      go_wp2_with fail
      refine (CA.out _ h1).mono ?_; rintro e w1 ⟨rfl, b1⟩
      have q1 := box_cell b1 (by simp)
      have h2 := h1.below b1 (Nat.le_refl _)
      have hb1 := nx hb0 b1
      clear b1 hb0 h1
      go_wp2_with fail
      refine (CB.out _ h2).mono ?_; rintro e w2 ⟨rfl, b2⟩
      go_wp2_with fail
      go_ret
      exact ⟨rfl, nx hb1 b2⟩
    | true =>
      rw [hsb] at CB
      have e : sosV os a b = (sumS os b.toNat a.toNat : Int) := by simp [sosV, hsa, hsb]
      rw [e]
      obtain ⟨m, rfl, -, k1, hg, -, -⟩ := setB_bd hsa
      obtain ⟨k, rfl, -, k2, -, -, -⟩ := setB_bd hsb
      simp only [Int.toNat_natCast]
      have CS := Lib.hid (fun w h => l4Sum_any a0 c0 os m k w h hg (by omega) (by omega))
      obtain ⟨r, hr⟩ : ∃ r, r = sumS os k m := ⟨_, rfl⟩
      rw [← hr] at CS ⊢
      clear hsa hsb e hr hg k1 k2
      go_enter Try.func18, Try.ntmps18
      go_wp2_with fail
      refine (CA.out _ h1).mono ?_; rintro e w1 ⟨rfl, b1⟩
      have q1' := box_cell b1 (by simp)
      have z1' : w.heap.size < w1.heap.size := by have := b1.size; simp at this; omega
      have h2' := h1.below b1 (Nat.le_refl _)
      have hb1' := nx hb0 b1
      clear b1 hb0 h1
      go_wp2_with fail
      refine (CB.out _ h2').mono ?_; rintro e w2 ⟨rfl, b2⟩
      have q2 := (b2.cell (p := ⟨w.heap.size, 0, none⟩) z1').trans q1'
      have h3 := h2'.below b2 (Nat.le_refl _)
      have hb2 := nx hb1' b2
      clear b2 q1' z1' h2' hb1'
      go_wp2_with fail
      refine (CS.out _ h3).mono ?_; rintro e w3 ⟨rfl, b3⟩
      go_wp2_with fail
      go_ret
      exact ⟨rfl, nx hb2 b3⟩
end Go.Proofs.Ytokpgbpdmfibjaa

namespace Go.Proofs.Ytokpgbpdmfibjaa
open Go.RowKit Go.ChangeShapes
set_option linter.unusedVariables false

/-- No sum of two elements is in the set. -/
def freeB (os : List Int) (a : Nat) : Bool := (sumS os a a &&& a) == 0





theorem lt24_of {N b : Nat} (hN : N ≤ 24) (h : b < 2 ^ N) : b < 16777216 := by
  have := Nat.pow_le_pow_right (n := 2) (by decide) hN
  have e : (2 : Nat) ^ 24 = 16777216 := by decide
  omega
theorem mems_one : mems 1 = [0] := by decide
theorem free_one {os : List Int} (h : grpB os = true) : freeB os (0 ||| 2 ^ 0) = false := by
  obtain ⟨g2, g3, g4, g5, g6⟩ := grp_gn h
  have e : (sumS os 1 1).testBit 0 = true := by
    rw [sumS_bit, mems_one]
    simp [gadd_zero g2 0 g3]
  have e2 : (sumS os 1 1 &&& 1).testBit 0 = true := by rw [Nat.testBit_and, e]; rfl
  unfold freeB
  show (sumS os 1 1 &&& 1 == 0) = false
  cases hz : (sumS os 1 1 &&& 1 == 0) with
  | false => rfl
  | true =>
    rw [beq_iff_eq] at hz
    rw [hz] at e2
    simp at e2
theorem lg_free {os : List Int} (h : grpB os = true) : lgGo (freeB os) (gn os) (gn os) 0 0 = lgGo (freeB os) (gn os) (gn os - 1) 0 0 := by
  obtain ⟨g2, g3, g4, g5, g6⟩ := grp_gn h
  obtain ⟨d, hd⟩ : ∃ d, gn os = d + 1 := ⟨gn os - 1, by omega⟩
  have e := free_one h
  rw [hd]
  show lgGo (freeB os) (d + 1) d 0 _ = _
  rw [show d + 1 - (d + 1) = 0 by omega, e]
  rfl
theorem cn_free {os : List Int} (h : grpB os = true) : cnGo (freeB os) (gn os) (gn os) 0 1 = cnGo (freeB os) (gn os) (gn os - 1) 0 1 := by
  obtain ⟨g2, g3, g4, g5, g6⟩ := grp_gn h
  obtain ⟨d, hd⟩ : ∃ d, gn os = d + 1 := ⟨gn os - 1, by omega⟩
  have e := free_one h
  rw [hd]
  show cnGo (freeB os) (d + 1) d 0 _ = _
  rw [show d + 1 - (d + 1) = 0 by omega, e]
  rfl

def bLargestSumFree (os : List Int) : Bool := grpB os && decide (gn os ≤ 16)
/-- What LargestSumFree hands back. -/
def lvLargestSumFree (os : List Int) : Nat := if bLargestSumFree os = true then lgGo (freeB os) (gn os) (gn os - 1) 0 0 else 0



def bCountSumFree (os : List Int) : Bool := grpB os && decide (gn os ≤ 16)
/-- What CountSumFree hands back. -/
def lvCountSumFree (os : List Int) : Int := if bCountSumFree os = true then cnGo (freeB os) (gn os) (gn os - 1) 0 1 else -1


end Go.Proofs.Ytokpgbpdmfibjaa

namespace Go.Proofs.Ytokpgbpdmfibjaa
open Go.RowKit Go.ChangeShapes
set_option linter.unusedVariables false

def sfB (os : List Int) (a : Int) : Bool := setB os a && freeB os a.toNat
/-- The number of a set's elements, -1 where it is no set. -/
def cntV (os : List Int) (a : Int) : Int := if setB os a = true then (popc a.toNat : Int) else -1
set_option maxHeartbeats 800000 in
theorem cntS_spec (a0 : Option Addr) (c0 : Nat) (os : List Int) (a : Int) (w : World) (h0 : Ints w a0 c0 os) (hl : os.length ≤ 2000000) :
    Calls Try.prog 55 #[.agg #[.slice a0 os.length c0], .int .i64 a] w fun e w' => e = .returned (.int .i64 (cntV os a)) ∧ Below w.heap.size w w' := by
  have hb0 := (Below.refl w.heap.size w).alloc (Nat.le_refl _) (.cells #[.slice a0 os.length c0] 26)
  have h1 := h0.below hb0 (Nat.le_refl _)
  have CS := Lib.hid (fun w h => isSet_spec a0 c0 os a w h hl)
  cases hs : setB os a with
  | true =>
    obtain ⟨m, rfl, hm, hm2, hg, _⟩ := setB_bd hs
    have e : cntV os (m : Int) = (popc m : Int) := by simp [cntV, hs]
    rw [e]
    have C := Lib.hid (fun w => l3Bits_any m (by omega) w)
    rw [hs] at CS
    obtain ⟨v, hv⟩ : ∃ v, v = popc m := ⟨_, rfl⟩
    rw [← hv] at C ⊢
    clear hs e hv hg hm hm2
    go_enter Try.func55, Try.ntmps55
    go_wp2_with fail
    refine (CS.out _ h1).mono ?_; rintro e w1 ⟨rfl, b1⟩
    go_wp2_with fail
    refine (C.out _).mono ?_; rintro e w2 ⟨rfl, rfl⟩
    go_wp2_with fail
    go_ret
    exact ⟨rfl, nx hb0 b1⟩
  | false =>
    have e : cntV os a = -1 := by simp [cntV, hs]
    rw [e]
    rw [hs] at CS
    clear hs e
    go_enter Try.func55, Try.ntmps55
    go_wp2_with fail
    refine (CS.out _ h1).mono ?_; rintro e w1 ⟨rfl, b1⟩
    go_wp2_with fail
    go_ret
    exact ⟨rfl, nx hb0 b1⟩
theorem ordV_nat (os : List Int) : ∃ m : Nat, ordV os = (m : Int) ∧ m ≤ 24 := by
  unfold ordV
  split
  · rename_i h
    obtain ⟨_, _, h3, h4⟩ := grp_parts h
    exact ⟨(gord os).toNat, by omega, by omega⟩
  · exact ⟨0, rfl, by omega⟩
theorem prm_end {m : Nat} (hm : m ≤ 24) (h : ∀ e, 2 ≤ e → e < m → m % e ≠ 0) : prmB (m : Int) = decide (2 ≤ (m : Int)) := by
  have key : ∀ m : Nat, m < 25 → (∀ e : Nat, e < 25 → 2 ≤ e → e < m → m % e ≠ 0) → prmB (m : Int) = decide (2 ≤ (m : Int)) := by decide +kernel
  exact key m (by omega) fun e _ h1 h2 => h e h1 h2
theorem prm_hit {m d : Nat} (hm : m ≤ 24) (h1 : 2 ≤ d) (h2 : d < m) (h3 : m % d = 0) : prmB (m : Int) = false := by
  have key : ∀ m : Nat, m < 25 → ∀ d : Nat, d < 25 → 2 ≤ d → d < m → m % d = 0 → prmB (m : Int) = false := by decide +kernel
  exact key m (by omega) d (by omega) h1 h2 h3
end Go.Proofs.Ytokpgbpdmfibjaa

namespace Go.Proofs.Ytokpgbpdmfibjaa
open Go.RowKit Go.ChangeShapes
set_option linter.unusedVariables false
set_option linter.unusedSimpArgs false

theorem cfV_noI {os hs : List Int} {a : Int} (h : cfB os hs a = false) : cfV os hs a = -1 := by unfold cfV; rw [h]; simp
theorem order8 (hs : List Int) : inB (ordV hs) 1 8 = (grpB hs && decide (gn hs ≤ 8)) := by
  cases hg : grpB hs with
  | false => simp [ordV, hg, inB]
  | true =>
    obtain ⟨g2, g3, g4, g5, g6⟩ := grp_gn hg
    rw [show ordV hs = gord hs by simp [ordV, hg], ← g5, Bool.eq_iff_iff, inB_true, Bool.true_and, decide_eq_true_eq]
    omega
set_option maxRecDepth 20000 in
set_option maxHeartbeats 6400000 in
theorem cfm_impl (ag : Option Addr) (cg : Nat) (os : List Int) (ah : Option Addr) (ch : Nat) (hs : List Int) (a : Int) (w : World) (h0 : Ints w ag cg os) (h1 : Ints w ah ch hs) (hol : os.length ≤ 2000000) (hhl : hs.length ≤ 2000000) :
    Calls Try.prog 64 #[.agg #[.slice ag os.length cg], .agg #[.slice ah hs.length ch], .int .i64 a] w fun e w' => e = .returned (.int .i64 (cfV os hs a)) ∧ Below w.heap.size w w' := by
  have X0 := KpW.start w ag cg os ah ch hs
  have q1 := X0.c1
  have CS := Lib.hid (fun w h => isSet_impl ag cg os a w h hol)
  have CO := Lib.hid (fun w h => orderOf_impl ah ch hs w h hhl)
  have HCF : Hid (cfB os hs a = (setB os a && (inB (popc a.toNat : Int) 1 4 && (grpB hs && decide (gn hs ≤ 8))))) := Lib.hid rfl
  have WO := Lib.hid (within_any (ordV hs) 1 8)
  rw [order8] at WO
  cases hsa : setB os a with
  | false =>
    have e : cfV os hs a = -1 := cfV_noI (by rw [HCF.out, hsa]; rfl)
    rw [e]
    rw [hsa] at CS
    clear hsa e HCF
    go_enter Try.func64, Try.ntmps64
    go_wp2_with fail
    refine (CS.out _ (h0.below X0.bel (Nat.le_refl _))).mono ?_; rintro e w1 ⟨rfl, b⟩
    have X1 := X0.next b
    go_wp2_with fail
    go_ret
    exact ⟨rfl, X1.bel⟩
  | true =>
    rw [hsa] at CS
    obtain ⟨hg, m, rfl, hm⟩ := setB_parts hsa
    have hT := setT_bd hg
    have hm40 : m < 1099511627776 := by omega
    have HPB := Lib.hid (bits_any m hm40)
    have HLL := Lib.hid (members_any m hm40)
    have hpl : (mems m).length = popc m := mems_length m
    have HML : Hid (∀ x ∈ mems m, 0 ≤ x ∧ x < 1000) := Lib.hid (fun x hx => by have := mems_bd hx; omega)
    rw [Int.toNat_natCast] at HCF
    have HGG := Lib.hid hg
    obtain ⟨P, hP⟩ : ∃ p, p = popc m := ⟨_, rfl⟩
    rw [← hP] at HPB HCF hpl
    have WI := Lib.hid (within_any (P : Int) 1 4)
    cases hin : inB (P : Int) 1 4 with
    | false =>
      have e : cfV os hs (m : Int) = -1 := cfV_noI (by rw [HCF.out, hin]; simp)
      rw [e]
      rw [hin] at WI
      clear hsa e HCF hg hm hin hpl hP
      go_enter Try.func64, Try.ntmps64
      go_wp2_with fail
      refine (CS.out _ (h0.below X0.bel (Nat.le_refl _))).mono ?_; rintro e w1 ⟨rfl, b⟩
      have X1 := X0.next b
      clear X0 b q1
      go_wp2_with fail
      refine (HPB.out _).mono ?_; rintro e w' ⟨rfl, rfl⟩
      go_wp2_with fail
      refine (WI.out _).mono ?_; rintro e w' ⟨rfl, rfl⟩
      go_wp2_with fail
      go_ret
      exact ⟨rfl, X1.bel⟩
    | true =>
      rw [hin] at WI
      have hP4 : 1 ≤ P ∧ P ≤ 4 := by have := inB_true.1 hin; omega
      cases hgo : (grpB hs && decide (gn hs ≤ 8)) with
      | false =>
        have e : cfV os hs (m : Int) = -1 := cfV_noI (by rw [HCF.out, hgo]; simp)
        rw [e]
        rw [hgo] at WO
        obtain ⟨O, hO⟩ : ∃ o, o = ordV hs := ⟨_, rfl⟩
        rw [← hO] at WO CO
        clear hsa e HCF hg hm hin hpl hP hgo hO
        go_enter Try.func64, Try.ntmps64
        go_wp2_with fail
        refine (CS.out _ (h0.below X0.bel (Nat.le_refl _))).mono ?_; rintro e w1 ⟨rfl, b⟩
        have X1 := X0.next b
        have q2 := X1.c2
        clear X0 b q1
        go_wp2_with fail
        refine (HPB.out _).mono ?_; rintro e w' ⟨rfl, rfl⟩
        go_wp2_with fail
        refine (WI.out _).mono ?_; rintro e w' ⟨rfl, rfl⟩
        go_wp2_with fail
        refine (CO.out _ (h1.below X1.bel (Nat.le_refl _))).mono ?_; rintro e w2 ⟨rfl, b⟩
        have X2 := X1.next b
        clear X1 b q2
        go_wp2_with fail
        refine (WO.out _).mono ?_; rintro e w' ⟨rfl, rfl⟩
        go_wp2_with fail
        go_ret
        exact ⟨rfl, X2.bel⟩
      | true =>
        have hcf : cfB os hs (m : Int) = true := by rw [HCF.out, hin, hsa, hgo]; rfl
        rw [hgo] at WO
        rw [Bool.and_eq_true, decide_eq_true_eq] at hgo
        obtain ⟨hgb, hN8⟩ := hgo
        have e : cfV os hs (m : Int) = ((0 + cmG os hs (mems m) (gn hs) P [] : Nat) : Int) := by
          unfold cfV
          rw [if_pos hcf, Int.toNat_natCast, ← hP, Nat.zero_add]
        rw [e]
        have hcl : cmG os hs (mems m) (gn hs) P [] ≤ 4096 := by
          have h1 := cmG_le (os := os) (hs := hs) (l := mems m) hN8 P []
          have h2 : 8 ^ P ≤ 8 ^ 4 := Nat.pow_le_pow_right (by decide) hP4.2
          omega
        have HCL := Lib.hid (fun (w0 : World) (al : Option Addr) (cl bl bg bh bm bn bt rm : Nat) (H0 : Ints w0 ag cg os) (H1 : Ints w0 ah ch hs) (HL : Ints w0 al cl (mems m)) hbl hbg hbh zl zg zh (im : List Int) (w : World) he hb => cfm_cl w0 ag cg os ah ch hs al cl (mems m) P bl bg bh bm bn bt rm H0 H1 HL hbl hbg hbh zl zg zh hhl HGG.out hgb (by omega) hpl HML.out hN8 P 0 im [] 0 w (by omega) rfl he hb (by simp) (by omega))
        obtain ⟨O, hO⟩ : ∃ o, o = ordV hs := ⟨_, rfl⟩
        rw [← hO] at WO CO
        obtain ⟨V, hV⟩ : ∃ v, v = 0 + cmG os hs (mems m) (gn hs) P [] := ⟨_, rfl⟩
        rw [← hV] at HCL ⊢
        have hml : (mems m).length = P := hpl
        have HPL := Lib.hid hml
        obtain ⟨L, hL⟩ : ∃ L, L = mems m := ⟨_, rfl⟩
        rw [← hL] at HLL HCL HPL
        have HGV : Hid (∀ w, Calls Try.prog 115 #[.int .i64 (m : Int)] w fun e w' => ∃ a' cap, e = .returned (.slice a' P cap) ∧ OwnI w' w.heap.size a' cap L ∧ Below w.heap.size w w') := Lib.hid (fun w => by
          have h := HLL.out w
          unfold GaveI at h
          rw [HPL.out] at h
          exact h)
        clear hsa e HCF hg hm hin hpl hP hO hgb hN8 hV hml hL hcf hcl HML HLL
        go_enter Try.func64, Try.ntmps64
        go_wp2_with fail
        refine (CS.out _ (h0.below X0.bel (Nat.le_refl _))).mono ?_; rintro e w1 ⟨rfl, b⟩
        have X1 := X0.next b
        have q2 := X1.c2
        clear b q1
        go_wp2_with fail
        refine (HPB.out _).mono ?_; rintro e w' ⟨rfl, rfl⟩
        go_wp2_with fail
        refine (WI.out _).mono ?_; rintro e w' ⟨rfl, rfl⟩
        go_wp2_with fail
        refine (CO.out _ (h1.below X1.bel (Nat.le_refl _))).mono ?_; rintro e w2 ⟨rfl, b2⟩
        have X2 := X1.next b2
        clear q2
        go_wp2_with fail
        refine (WO.out _).mono ?_; rintro e w' ⟨rfl, rfl⟩
        go_wp2_with fail
        refine (HGV.out _).mono ?_; rintro e w4 ⟨al, cl, rfl, oL, b4⟩
        have X4 := X2.next b4
        have al4 := (Below.refl w4.heap.size w4).alloc (Nat.le_refl _) (.cells #[.slice al P cl] 24)
        have X5 := X4.next al4
        have iL := oL.ints.below al4 (Nat.le_refl _)
        have hs5 : (w4.alloc (.cells #[.slice al P cl] 24)).heap.size = w4.heap.size + 1 := by simp
        have qL : (w4.alloc (.cells #[.slice al P cl] 24)).cell? ⟨w4.heap.size, 0, none⟩ = some (.slice al P cl) := cell_of_one (new_at rfl)
        have CF := Lib.hid (fun bm bn bt rm => HCL.out _ al cl w4.heap.size w.heap.size (w.heap.size + 1) bm bn bt rm (h0.below X5.bel (Nat.le_refl _)) (h1.below X5.bel (Nat.le_refl _)) iL qL X5.c1 X5.c2 (by omega) (by have := X5.lt; omega) X5.lt)
        have HX5 := Lib.hid X5
        have HS5 := Lib.hid hs5
        clear oL b4 b2 X2 X1 X4 al4 iL hs5 qL X5 HCL
        go_wp2_with (at_make; refine wpList_mk rfl _ _ rfl (w4.alloc (.cells #[.slice al P cl] 24)).heap.size _ _ P rfl rfl rfl rfl (by omega) (Nat.le_refl _) ?_)
        intro w5 o5 hgr
        have b5 := hgr _ (Below.refl _ _)
        have hs6 : w4.heap.size + 1 ≤ w5.heap.size := by have := b5.size; rw [HS5.out] at this; exact this
        have o6 : OwnI w5 (w4.heap.size + 1) (some ⟨w4.heap.size + 1, 0, none⟩) P (List.replicate P 0) := by
          have h := o5
          (try simp only [HS5.out] at h)
          exact h
        have tl : w4.heap.size + 1 < w5.heap.size := (o6.lt _ rfl).2
        clear o5
        have CF1 := Lib.hid (fun im w he hb => CF.out w5.heap.size (w5.heap.size + 1) (w5.heap.size + 2) (w4.heap.size + 1) im w he hb)
        simp only [Int.cast_ofNat_Int] at CF1
        have HB5 := Lib.hid b5
        clear CF hgr b5
        go_wp2_with fail
        refine (CF1.out (List.replicate P 0) _ ?env ?bel).mono ?_
        case env =>
          refine ⟨one_alloc (one_alloc (new_at rfl)), one_alloc (new_at (by simp)), new_at (by simp), ?_, by simp, ⟨⟨by omega, by omega, by omega⟩, ⟨by omega, by omega⟩, by rw [HS5.out]; omega⟩⟩
          rw [HS5.out]
          exact ((o6.alloc _).alloc _).alloc _
        case bel => rw [HS5.out]; exact ((HB5.out.alloc (by omega) _).alloc (by simp; omega) _).alloc (by simp; omega) _
        rintro e w6 ⟨rfl, im', env, -, hb6⟩
        have qn := cell_of_one env.hn
        clear env CF1 o6 tl
        go_wp2_with fail
        go_ret
        exact ⟨rfl, HX5.out.bel.trans (hb6.mono HX5.out.bel.size)⟩
end Go.Proofs.Ytokpgbpdmfibjaa

namespace Go.Proofs.Ytokpgbpdmfibjaa
open Go.RowKit Go.ChangeShapes
set_option linter.unusedVariables false
set_option linter.unusedSimpArgs false

theorem cfV_no {os hs : List Int} {a : Int} (h : cfB os hs a = false) : cfV os hs a = -1 := by unfold cfV; rw [h]; simp
theorem below_allocM (w : World) (o : Obj) : Below w.heap.size w (w.alloc o) := (Below.refl w.heap.size w).alloc (Nat.le_refl _) o
set_option maxRecDepth 20000 in
set_option maxHeartbeats 6400000 in
theorem cfm_spec (ag : Option Addr) (cg : Nat) (os : List Int) (ah : Option Addr) (ch : Nat) (hs : List Int) (a : Int) (w : World) (h0 : Ints w ag cg os) (h1 : Ints w ah ch hs) (hol : os.length ≤ 2000000) (hhl : hs.length ≤ 2000000) :
    Calls Try.prog 65 #[.agg #[.slice ag os.length cg], .agg #[.slice ah hs.length ch], .int .i64 a] w fun e w' => e = .returned (.int .i64 (cfV os hs a)) ∧ Below w.heap.size w w' := by
  have X0 := KpW.start w ag cg os ah ch hs
  have q1 := X0.c1
  have CS := Lib.hid (fun w h => isSet_spec ag cg os a w h hol)
  have CG := Lib.hid (fun w h => isGroup_spec ah ch hs w h hhl)
  have HCF : Hid (cfB os hs a = (setB os a && (inB (popc a.toNat : Int) 1 4 && (grpB hs && decide (gn hs ≤ 8))))) := Lib.hid rfl
  cases hsa : setB os a with
  | false =>
    have e : cfV os hs a = -1 := cfV_no (by rw [HCF.out, hsa]; rfl)
    rw [e]
    rw [hsa] at CS
    clear hsa e HCF
    go_enter Try.func65, Try.ntmps65
    go_wp2_with fail
    refine (CS.out _ (h0.below X0.bel (Nat.le_refl _))).mono ?_; rintro e w1 ⟨rfl, b⟩
    have X1 := X0.next b
    go_wp2_with fail
    go_ret
    exact ⟨rfl, X1.bel⟩
  | true =>
    rw [hsa] at CS
    obtain ⟨hg, m, rfl, hm⟩ := setB_parts hsa
    obtain ⟨g2, g3, g4, g5, g6⟩ := grp_gn hg
    have hT := setT_bd hg
    have hm40 : m < 1099511627776 := by omega
    have HPB := Lib.hid (l3Bits_any m hm40)
    have HLL := Lib.hid (l3List_any m hm40)
    rw [Int.toNat_natCast] at HCF
    cases hgb : grpB hs with
    | false =>
      have e : cfV os hs (m : Int) = -1 := cfV_no (by rw [HCF.out, hgb]; simp)
      rw [e]
      rw [hgb] at CG
      clear hsa e HCF hgb hg hm
      go_enter Try.func65, Try.ntmps65
      go_wp2_with fail
      refine (CS.out _ (h0.below X0.bel (Nat.le_refl _))).mono ?_; rintro e w1 ⟨rfl, b⟩
      have X1 := X0.next b
      have q2 := X1.c2
      clear X0 b q1
      go_wp2_with fail
      refine (CG.out _ (h1.below X1.bel (Nat.le_refl _))).mono ?_; rintro e w2 ⟨rfl, b⟩
      have X2 := X1.next b
      go_wp2_with fail
      go_ret
      exact ⟨rfl, X2.bel⟩
    | true =>
      rw [hgb] at CG
      have CO := Lib.hid (fun w h => l2Order_any ah ch hs w h hgb)
      rw [← (grp_gn hgb).2.2.2.1] at CO
      have hN24 := (grp_gn hgb).2.2.1
      have HGH := Lib.hid hgb
      have HGG := Lib.hid hg
      have HMM := Lib.hid hm
      have HG6 := Lib.hid g6
      have hpl : (mems m).length = popc m := mems_length m
      have HML : Hid (∀ x ∈ mems m, 0 ≤ x ∧ x < 1000) := Lib.hid (fun x hx => by have := mems_bd hx; omega)
      obtain ⟨P, hP⟩ : ∃ p, p = popc m := ⟨_, rfl⟩
      rw [← hP] at HPB HCF hpl
      have WI := Lib.hid (l1In_any (P : Int) 1 4)
      by_cases hN8 : gn hs ≤ 8
      · have hN8b : decide ((8 : Int) < (gn hs : Int)) = false := by simp; omega
        have hN8i : ¬ ((8 : Int) < (gn hs : Int)) := by omega
        cases hin : inB (P : Int) 1 4 with
        | false =>
          have e : cfV os hs (m : Int) = -1 := cfV_no (by rw [HCF.out, hin]; simp)
          rw [e]
          rw [hin] at WI
          obtain ⟨N, hNN⟩ : ∃ n, n = gn hs := ⟨_, rfl⟩
          rw [← hNN] at CO hN8b hN8i hN8 hN24
          clear hsa e HCF hgb hg hm hin hNN hpl hP
          go_enter Try.func65, Try.ntmps65
          go_wp2_with fail
          refine (CS.out _ (h0.below X0.bel (Nat.le_refl _))).mono ?_; rintro e w1 ⟨rfl, b⟩
          have X1 := X0.next b
          have q2 := X1.c2
          clear X0 b q1
          go_wp2_with fail
          refine (CG.out _ (h1.below X1.bel (Nat.le_refl _))).mono ?_; rintro e w2 ⟨rfl, b⟩
          have X2 := X1.next b
          have q3 := X2.c2
          clear X1 b q2
          go_wp2_with fail
          refine (CO.out _ (h1.below X2.bel (Nat.le_refl _))).mono ?_; rintro e w3 ⟨rfl, b⟩
          have X3 := X2.next b
          clear X2 b q3
          go_wp2_with fail
          refine (HPB.out _).mono ?_; rintro e w' ⟨rfl, rfl⟩
          go_wp2_with fail
          refine (WI.out _).mono ?_; rintro e w' ⟨rfl, rfl⟩
          go_wp2_with fail
          go_ret
          exact ⟨rfl, X3.bel⟩
        | true =>
          have hcf : cfB os hs (m : Int) = true := by rw [HCF.out, hin, hsa, hgb]; simpa using hN8
          have hP4 : 1 ≤ P ∧ P ≤ 4 := by have := inB_true.1 hin; omega
          have e : cfV os hs (m : Int) = (cmS os hs (mems m) (gn hs) P [] : Int) := by
            unfold cfV
            rw [if_pos hcf, Int.toNat_natCast, ← hP]
            rw [cm_eq (by simp; omega) (by exact kpB_nil _ _ _ _)]
          rw [e]
          rw [hin] at WI
          have HSE := Lib.hid (fun (w0 : World) (bl ol cl : Nat) (H0 : Ints w0 ag cg os) (H1 : Ints w0 ah ch hs) (HL : Ints w0 (some ⟨bl, ol, none⟩) cl (mems m)) (am : Option Addr) (cm : Nat) (w : World) (HI : Ints w am cm []) (hb : Below w0.heap.size w0 w) => search_any w0 ag cg os ah ch hs bl ol cl (mems m) H0 H1 HL HGG.out HGH.out (by omega) HML.out hN8 P [] am cm w (by simp; omega) (by simp) HI hb)
          have hml : (mems m).length = P := hpl
          obtain ⟨L, hL⟩ : ∃ L, L = mems m := ⟨_, rfl⟩
          rw [← hL] at HLL HSE hml
          obtain ⟨V, hV⟩ : ∃ v, v = cmS os hs L (gn hs) P [] := ⟨_, rfl⟩
          rw [← hL, ← hV]
          rw [← hV] at HSE
          obtain ⟨N, hNN⟩ : ∃ n, n = gn hs := ⟨_, rfl⟩
          rw [← hNN] at CO hN8b hN8i hN8 hN24
          have hL0 : 0 < L.length := by omega
          clear hsa e HCF hgb hg hm hin hNN hpl hP hcf hV hL HML hml hP4
          go_enter Try.func65, Try.ntmps65
          go_wp2_with fail
          refine (CS.out _ (h0.below X0.bel (Nat.le_refl _))).mono ?_; rintro e w1 ⟨rfl, b⟩
          have X1 := X0.next b
          have q2 := X1.c2
          clear X0 b q1
          go_wp2_with fail
          refine (CG.out _ (h1.below X1.bel (Nat.le_refl _))).mono ?_; rintro e w2 ⟨rfl, b⟩
          have X2 := X1.next b
          have q3 := X2.c2
          clear X1 b q2
          go_wp2_with fail
          refine (CO.out _ (h1.below X2.bel (Nat.le_refl _))).mono ?_; rintro e w3 ⟨rfl, b⟩
          have X3 := X2.next b
          clear X2 b q3
          go_wp2_with fail
          refine (HPB.out _).mono ?_; rintro e w' ⟨rfl, rfl⟩
          go_wp2_with fail
          refine (WI.out _).mono ?_; rintro e w' ⟨rfl, rfl⟩
          have q1 := X3.c1
          have q2 := X3.c2
          have X4 := X3.drew
          have HA0 := Lib.hid h0
          have HA1 := Lib.hid h1
          clear h0 h1
          go_wp2_with fail
          refine wp_region_held_drew (S := (fun w' => w'.cell? ⟨w.heap.size, 0, none⟩ = some (.slice ag os.length cg) ∧ w'.cell? ⟨w.heap.size + 1, 0, none⟩ = some (.slice ah hs.length ch))) (by as_aux_lemma => kernel_rfl) ⟨X4.c1, X4.c2⟩ (fun hHeld => ?_)
          refine wpAnyH_take (i := 0) (v := ?_) rfl (by as_aux_lemma => kernel_rfl) (by as_aux_lemma => kernel_rfl) (by as_aux_lemma => kernel_rfl) (fun _ _ _ h => h) (Or.inl ⟨by first | kernel_rfl | rfl, ?_⟩) (by assumption) ?_
          rotate_left
          · intro w hSw
            (try dsimp only at hSw)
            (try go_split_ands)
            go_simp
            try with_reducible rfl
          (try simp only [Act.put, List.setIfInBounds_toArray, List.set_cons_zero, List.set_cons_succ])
          refine wpAnyH_take (i := 1) (v := ?_) rfl (by as_aux_lemma => kernel_rfl) (by as_aux_lemma => kernel_rfl) (by as_aux_lemma => kernel_rfl) (fun _ _ _ h => h) (Or.inl ⟨by first | kernel_rfl | rfl, ?_⟩) (by assumption) ?_
          rotate_left
          · intro w hSw
            (try dsimp only at hSw)
            (try go_split_ands)
            go_simp
            try with_reducible rfl
          (try simp only [Act.put, List.setIfInBounds_toArray, List.set_cons_zero, List.set_cons_succ])
          refine wpAnyH_take (i := 2) (v := ?_) rfl (by as_aux_lemma => kernel_rfl) (by as_aux_lemma => kernel_rfl) (by as_aux_lemma => kernel_rfl) (fun _ _ _ h => h) (Or.inl ⟨by first | kernel_rfl | rfl, ?_⟩) (by assumption) ?_
          rotate_left
          · intro w hSw
            (try dsimp only at hSw)
            (try go_split_ands)
            go_simp
            try with_reducible rfl
          (try simp only [Act.put, List.setIfInBounds_toArray, List.set_cons_zero, List.set_cons_succ])
          refine wpAnyH_ready (rs := [3, 4]) (by as_aux_lemma => kernel_rfl) (by simp) ?_
          refine AllReadyH.cons rfl (fun K hK => ?_) (AllReadyH.cons rfl (fun K hK => ?_) AllReadyH.nil)
          · go_simp
            go_at_call 116
            refine (HLL.out _).mono ?_; rintro e w4 ⟨al, cl, rfl, oL, b4⟩
            obtain ⟨bl, ol, hal, -, -⟩ := oL.ints.2.2.2.2.resolve_left (by intro h; rw [h] at hL0; simp at hL0)
            subst hal
            have X5 := X4.next b4
            have iL := oL.ints
            clear oL b4
            refine hK.out _ _ ⟨X5.c1, X5.c2⟩ (fun hHeld => ?_)
            clear hK K
            (try simp only [Act.put, List.setIfInBounds_toArray, List.set_cons_zero, List.set_cons_succ])
            refine wpAnyH_ready (rs := [4]) (by as_aux_lemma => kernel_rfl) (by simp) ?_
            refine AllReadyH.cons rfl (fun K hK => ?_) AllReadyH.nil
            go_simp
            have X6 := X5.next (below_allocM w4 (.cells #[] 3))
            have iL2 := iL.alloc (.cells #[] 3)
            obtain ⟨w5, hw5⟩ : ∃ W, W = w4.alloc (.cells #[] 3) := ⟨_, rfl⟩
            rw [← hw5] at X6 iL2 ⊢
            clear X5 iL hw5
            refine hK.out _ _ ⟨X6.c1, X6.c2⟩ (fun hHeld => ?_)
            clear hK K
            (try simp only [Act.put, List.setIfInBounds_toArray, List.set_cons_zero, List.set_cons_succ])
            refine wpAnyH_ready (rs := [5]) (by as_aux_lemma => kernel_rfl) (by simp) ?_
            refine AllReadyH.cons rfl (fun K hK => ?_) AllReadyH.nil
            go_simp
            go_at_call 128
            refine (HSE.out w5 bl ol cl (HA0.out.below X6.bel (Nat.le_refl _)) (HA1.out.below X6.bel (Nat.le_refl _)) iL2 _ 0 w5 (Ints.nil _ _ _ (by omega)) (Below.refl _ _)).mono ?_; rintro e w6 ⟨rfl, b6⟩
            have X7 := X6.next b6
            clear b6
            refine hK.out _ _ ⟨X7.c1, X7.c2⟩ (fun hHeld => ?_)
            clear hK K
            (try simp only [Act.put, List.setIfInBounds_toArray, List.set_cons_zero, List.set_cons_succ])
            refine wpAnyH_take (i := 6) (v := ?_) rfl (by as_aux_lemma => kernel_rfl) (by as_aux_lemma => kernel_rfl) (by as_aux_lemma => kernel_rfl) (fun _ _ _ h => h) (Or.inl ⟨by first | kernel_rfl | rfl, ?_⟩) (by assumption) ?_
            rotate_left
            · intro w hSw
              (try dsimp only at hSw)
              (try go_split_ands)
              go_simp
              try with_reducible rfl
            (try simp only [Act.put, List.setIfInBounds_toArray, List.set_cons_zero, List.set_cons_succ])
            refine wpAnyH_done (by as_aux_lemma => kernel_rfl) ?_ _
            (try simp only [List.getElem_toArray, List.getElem_cons_succ, List.getElem_cons_zero, Act.put, List.setIfInBounds_toArray, List.set_cons_zero, List.set_cons_succ])
            go_wp2_with fail
            go_ret
            exact ⟨rfl, X7.bel⟩
          · go_simp
            have X5 := (X3.next (below_allocM w3 (.cells #[] 3))).drew
            obtain ⟨wE, hwE⟩ : ∃ W, W = (w3.alloc (.cells #[] 3)).drew := ⟨_, rfl⟩
            rw [← hwE] at X5 ⊢
            clear X4 hwE
            refine hK.out _ _ ⟨X5.c1, X5.c2⟩ (fun hHeld => ?_)
            clear hK K
            (try simp only [Act.put, List.setIfInBounds_toArray, List.set_cons_zero, List.set_cons_succ])
            refine wpAnyH_ready (rs := [3]) (by as_aux_lemma => kernel_rfl) (by simp) ?_
            refine AllReadyH.cons rfl (fun K hK => ?_) AllReadyH.nil
            go_simp
            go_at_call 116
            refine (HLL.out _).mono ?_; rintro e w4 ⟨al, cl, rfl, oL, b4⟩
            obtain ⟨bl, ol, hal, -, -⟩ := oL.ints.2.2.2.2.resolve_left (by intro h; rw [h] at hL0; simp at hL0)
            subst hal
            have X6 := X5.next b4
            have iL := oL.ints
            clear oL b4 X5
            refine hK.out _ _ ⟨X6.c1, X6.c2⟩ (fun hHeld => ?_)
            clear hK K
            (try simp only [Act.put, List.setIfInBounds_toArray, List.set_cons_zero, List.set_cons_succ])
            refine wpAnyH_ready (rs := [5]) (by as_aux_lemma => kernel_rfl) (by simp) ?_
            refine AllReadyH.cons rfl (fun K hK => ?_) AllReadyH.nil
            go_simp
            go_at_call 128
            refine (HSE.out w4 bl ol cl (HA0.out.below X6.bel (Nat.le_refl _)) (HA1.out.below X6.bel (Nat.le_refl _)) iL _ 0 w4 (Ints.nil _ _ _ (by omega)) (Below.refl _ _)).mono ?_; rintro e w6 ⟨rfl, b6⟩
            have X7 := X6.next b6
            clear b6
            refine hK.out _ _ ⟨X7.c1, X7.c2⟩ (fun hHeld => ?_)
            clear hK K
            (try simp only [Act.put, List.setIfInBounds_toArray, List.set_cons_zero, List.set_cons_succ])
            refine wpAnyH_take (i := 6) (v := ?_) rfl (by as_aux_lemma => kernel_rfl) (by as_aux_lemma => kernel_rfl) (by as_aux_lemma => kernel_rfl) (fun _ _ _ h => h) (Or.inl ⟨by first | kernel_rfl | rfl, ?_⟩) (by assumption) ?_
            rotate_left
            · intro w hSw
              (try dsimp only at hSw)
              (try go_split_ands)
              go_simp
              try with_reducible rfl
            (try simp only [Act.put, List.setIfInBounds_toArray, List.set_cons_zero, List.set_cons_succ])
            refine wpAnyH_done (by as_aux_lemma => kernel_rfl) ?_ _
            (try simp only [List.getElem_toArray, List.getElem_cons_succ, List.getElem_cons_zero, Act.put, List.setIfInBounds_toArray, List.set_cons_zero, List.set_cons_succ])
            go_wp2_with fail
            go_ret
            exact ⟨rfl, X7.bel⟩
      · have hN8b : decide ((8 : Int) < (gn hs : Int)) = true := by simp; omega
        have hN8i : (8 : Int) < (gn hs : Int) := by omega
        have e : cfV os hs (m : Int) = -1 := cfV_no (by rw [HCF.out]; simp [hN8])
        rw [e]
        obtain ⟨N, hNN⟩ : ∃ n, n = gn hs := ⟨_, rfl⟩
        rw [← hNN] at CO hN8b hN8i hN8 hN24
        clear hsa e HCF hgb hg hm hNN hpl hP
        go_enter Try.func65, Try.ntmps65
        go_wp2_with fail
        refine (CS.out _ (h0.below X0.bel (Nat.le_refl _))).mono ?_; rintro e w1 ⟨rfl, b⟩
        have X1 := X0.next b
        have q2 := X1.c2
        clear X0 b q1
        go_wp2_with fail
        refine (CG.out _ (h1.below X1.bel (Nat.le_refl _))).mono ?_; rintro e w2 ⟨rfl, b⟩
        have X2 := X1.next b
        have q3 := X2.c2
        clear X1 b q2
        go_wp2_with fail
        refine (CO.out _ (h1.below X2.bel (Nat.le_refl _))).mono ?_; rintro e w3 ⟨rfl, b⟩
        have X3 := X2.next b
        go_wp2_with fail
        go_ret
        exact ⟨rfl, X3.bel⟩
end Go.Proofs.Ytokpgbpdmfibjaa

namespace Go.Proofs.Ytokpgbpdmfibjaa
open Go.RowKit Go.ChangeShapes
set_option linter.unusedVariables false

theorem nL_perm (f : Int → Nat) {l m : List Int} (h : l.Perm m) : nL f l = nL f m := by
  induction h with
  | nil => rfl
  | cons x _ ih => rw [nL_cons, nL_cons, ih]
  | swap x y l => rw [nL_cons, nL_cons, nL_cons, nL_cons]; omega
  | trans _ _ ih1 ih2 => rw [ih1, ih2]
theorem nL_app (f : Int → Nat) (l m : List Int) : nL f (l ++ m) = nL f l + nL f m := by simp [nL]
theorem nL_ix (f : Int → Nat) (l : List Int) : ∀ k, k ≤ l.length → nL f (l.take k) = ns (fun i => f (l.getD i 0)) k
  | 0, _ => by simp [nL, ns]
  | k + 1, h => by
    rw [List.take_succ_eq_append_getElem (by omega), nL_app, nL_ix f l k (by omega), nL_cons, nL_nil]
    show _ = ns (fun i => f (l.getD i 0)) k + f (l.getD k 0)
    rw [List.getD_eq_getElem?_getD, List.getElem?_eq_getElem (by omega)]
    simp
theorem nL_ns_len (f : Int → Nat) (l : List Int) : nL f l = ns (fun i => f (l.getD i 0)) l.length := by
  have := nL_ix f l l.length (Nat.le_refl _)
  rwa [List.take_length] at this
/-- How many quadruples have equal sums. -/
def qd (os l : List Int) : Nat := nL (fun x => nL (fun y => nL (fun u => nL (fun v => nat1 (gadd os u.toNat v.toNat == gadd os x.toNat y.toNat)) l) l) l) l
theorem qd_perm (os : List Int) {l m : List Int} (h : l.Perm m) : qd os l = qd os m := by
  unfold qd
  rw [nL_perm _ h]
  refine nL_congr fun x _ => ?_
  rw [nL_perm _ h]
  refine nL_congr fun y _ => ?_
  rw [nL_perm _ h]
  refine nL_congr fun u _ => ?_
  rw [nL_perm _ h]
theorem qd_ix (os l : List Int) : qd os l = ns (fun i => ns (fun j => ns (fun p => ns (fun q => nat1 (gadd os (elt l p) (elt l q) == gadd os (elt l i) (elt l j))) l.length) l.length) l.length) l.length := by
  unfold qd
  rw [nL_ns_len]
  refine ns_congr fun i _ => ?_
  rw [nL_ns_len]
  refine ns_congr fun j _ => ?_
  rw [nL_ns_len]
  refine ns_congr fun p _ => ?_
  rw [nL_ns_len]
  rfl
theorem perm_mems {os l : List Int} (h : soB os l = true) : l.Perm (mems (soV os l)) := by
  obtain ⟨hg, -⟩ := so_parts' h
  obtain ⟨h1, h2⟩ := (soB_iff hg).1 h
  have h64 := lt64 (show gn os ≤ 64 by have := (grp_gn hg).2.2.1; omega) (soV_lt h)
  refine (List.perm_ext_iff_of_nodup h2 (mems_nodup _)).2 fun x => ?_
  rw [mems_mem h64]
  constructor
  · intro hx
    have h3 := h1 x hx
    exact ⟨x.toNat, by omega, (soV_bit h _).2 (by rw [show ((x.toNat : Nat) : Int) = x by omega]; exact hx)⟩
  · rintro ⟨i, rfl, hb⟩
    exact (soV_bit h i).1 hb
theorem energy_qd {os l : List Int} (h : soB os l = true) : sqL (tbl os (soV os l) (soV os l)) = (qd os l : Nat) := by
  obtain ⟨hg, -⟩ := so_parts' h
  rw [energy_eq (grp_gn hg).1, qd_perm os (perm_mems h)]
  rfl
/-- Sums are kept both ways. -/
theorem k2_iff {os hs l m : List Int} {n : Nat} (h : k2B os hs l m n = true) {i j p q : Nat} (hi : i < n) (hj : j < n) (hp : p < n) (hq : q < n) : gadd os (elt l i) (elt l j) = gadd os (elt l p) (elt l q) ↔ gadd hs (elt m i) (elt m j) = gadd hs (elt m p) (elt m q) := by
  unfold k2B at h
  rw [Bool.and_eq_true] at h
  exact ⟨kpB_true.1 h.1 i j p q hi hj hp hq, kpB_true.1 h.2 i j p q hi hj hp hq⟩
theorem k2_swap {os hs l m : List Int} {n : Nat} (h : k2B os hs l m n = true) : k2B hs os m l n = true := by
  unfold k2B at *
  rw [Bool.and_comm]; exact h
theorem elt_ofMem {l : List Int} (hl : ∀ x ∈ l, 0 ≤ x) {x : Nat} (h : (x : Int) ∈ l) : ∃ i, i < l.length ∧ elt l i = x := by
  obtain ⟨i, hi, e⟩ := List.getElem_of_mem h
  refine ⟨i, hi, ?_⟩
  unfold elt
  rw [List.getD_eq_getElem?_getD, List.getElem?_eq_getElem hi, Option.getD_some, e]
  rfl
theorem mem_ofElt {l : List Int} (hl : ∀ x ∈ l, 0 ≤ x) {i : Nat} (hi : i < l.length) : ((elt l i : Nat) : Int) ∈ l := by
  have h := List.getElem_mem hi
  have h2 := hl _ h
  unfold elt
  rw [List.getD_eq_getElem?_getD, List.getElem?_eq_getElem hi, Option.getD_some, show ((l[i].toNat : Nat) : Int) = l[i] by omega]
  exact h
theorem elt_inj {l : List Int} (hl : ∀ x ∈ l, 0 ≤ x) (hn : l.Nodup) {i j : Nat} (hi : i < l.length) (hj : j < l.length) (e : elt l i = elt l j) : i = j := by
  have h1 := hl _ (List.getElem_mem hi)
  have h2 := hl _ (List.getElem_mem hj)
  unfold elt at e
  rw [List.getD_eq_getElem?_getD, List.getD_eq_getElem?_getD, List.getElem?_eq_getElem hi, List.getElem?_eq_getElem hj, Option.getD_some, Option.getD_some] at e
  exact (List.getElem_inj hn).1 (by omega)
/-- A sum of the set is a sum of two of the list. -/
theorem sum_ix {os l : List Int} (h : soB os l = true) (z : Nat) : (sumS os (soV os l) (soV os l)).testBit z = true ↔ ∃ i j, i < l.length ∧ j < l.length ∧ gadd os (elt l i) (elt l j) = z := by
  obtain ⟨hg, -⟩ := so_parts' h
  have h64 := lt64 (show gn os ≤ 64 by have := (grp_gn hg).2.2.1; omega) (soV_lt h)
  have hp : ∀ x ∈ l, 0 ≤ x := fun x hx => (so_lt' h x hx).1
  rw [sumS_iff h64 h64]
  constructor
  · rintro ⟨p, q, hp2, hq2, e⟩
    obtain ⟨i, hi, rfl⟩ := elt_ofMem hp ((soV_bit h p).1 hp2)
    obtain ⟨j, hj, rfl⟩ := elt_ofMem hp ((soV_bit h q).1 hq2)
    exact ⟨i, j, hi, hj, e⟩
  · rintro ⟨i, j, hi, hj, e⟩
    exact ⟨_, _, (soV_bit h _).2 (mem_ofElt hp hi), (soV_bit h _).2 (mem_ofElt hp hj), e⟩
theorem sums_le {os hs l m : List Int} (hl : soB os l = true) (hm : soB hs m = true) (e : m.length = l.length) (hk : k2B os hs l m l.length = true) : popc (sumS os (soV os l) (soV os l)) ≤ popc (sumS hs (soV hs m) (soV hs m)) := by
  obtain ⟨hg, -⟩ := so_parts' hl
  obtain ⟨hh, -⟩ := so_parts' hm
  have b1 : sumS os (soV os l) (soV os l) < 2 ^ 64 := Nat.lt_of_lt_of_le (sumS_lt hg _ _) (Nat.pow_le_pow_right (by decide) (by decide))
  have b2 : sumS hs (soV hs m) (soV hs m) < 2 ^ 64 := Nat.lt_of_lt_of_le (sumS_lt hh _ _) (Nat.pow_le_pow_right (by decide) (by decide))
  have hex : ∀ z, ∃ y : Nat, (sumS os (soV os l) (soV os l)).testBit z = true → ∃ i j, i < l.length ∧ j < l.length ∧ gadd os (elt l i) (elt l j) = z ∧ gadd hs (elt m i) (elt m j) = y := fun z => by
    by_cases hz : (sumS os (soV os l) (soV os l)).testBit z = true
    · obtain ⟨i, j, hi, hj, e2⟩ := (sum_ix hl z).1 hz
      exact ⟨_, fun _ => ⟨i, j, hi, hj, e2, rfl⟩⟩
    · exact ⟨0, fun h => absurd h hz⟩
  obtain ⟨f, hf⟩ := Classical.axiomOfChoice hex
  refine popc_inj b1 b2 f (fun z hz => ?_) (fun z y hz hy e2 => ?_)
  · obtain ⟨i, j, hi, hj, _, e3⟩ := hf z hz
    exact (sum_ix hm _).2 ⟨i, j, by omega, by omega, e3⟩
  · obtain ⟨i, j, hi, hj, e3, e4⟩ := hf z hz
    obtain ⟨p, q, hp, hq, e5, e6⟩ := hf y hy
    rw [← e3, ← e5]
    exact (k2_iff hk hi hj hp hq).2 (by rw [e4, e6, e2])
theorem sid_half {os hs l m : List Int} (hl : soB os l = true) (hm : soB hs m = true) (e : m.length = l.length) (hk : k2B os hs l m l.length = true) (h : SidE os (soV os l)) : SidE hs (soV hs m) := by
  have pl : ∀ x ∈ l, 0 ≤ x := fun x hx => (so_lt' hl x hx).1
  have pm : ∀ x ∈ m, 0 ≤ x := fun x hx => (so_lt' hm x hx).1
  obtain ⟨hg, -⟩ := so_parts' hl
  obtain ⟨hh, -⟩ := so_parts' hm
  have nl := ((soB_iff hg).1 hl).2
  have nm := ((soB_iff hh).1 hm).2
  have key : ∀ i j p q, i < l.length → j < l.length → p < l.length → q < l.length → gadd os (elt l i) (elt l j) = gadd os (elt l p) (elt l q) → (i = p ∧ j = q) ∨ (i = q ∧ j = p) := by
    intro i j p q hi hj hp hq e2
    have bi := (soV_bit hl _).2 (mem_ofElt pl hi)
    have bj := (soV_bit hl _).2 (mem_ofElt pl hj)
    have bp := (soV_bit hl _).2 (mem_ofElt pl hp)
    have bq := (soV_bit hl _).2 (mem_ofElt pl hq)
    rcases Nat.le_total (elt l i) (elt l j) with h1 | h1 <;> rcases Nat.le_total (elt l p) (elt l q) with h2 | h2
    · obtain ⟨a, b⟩ := h _ _ _ _ bi bj bp bq h1 h2 e2
      exact .inl ⟨elt_inj pl nl hi hp a, elt_inj pl nl hj hq b⟩
    · rw [gadd_comm os (elt l p)] at e2
      obtain ⟨a, b⟩ := h _ _ _ _ bi bj bq bp h1 h2 e2
      exact .inr ⟨elt_inj pl nl hi hq a, elt_inj pl nl hj hp b⟩
    · rw [gadd_comm os (elt l i)] at e2
      obtain ⟨a, b⟩ := h _ _ _ _ bj bi bp bq h1 h2 e2
      exact .inr ⟨elt_inj pl nl hi hq b, elt_inj pl nl hj hp a⟩
    · rw [gadd_comm os (elt l i), gadd_comm os (elt l p)] at e2
      obtain ⟨a, b⟩ := h _ _ _ _ bj bi bq bp h1 h2 e2
      exact .inl ⟨elt_inj pl nl hi hp b, elt_inj pl nl hj hq a⟩
  intro a b c d ha hb hc hd hab hcd e2
  obtain ⟨i, hi, rfl⟩ := elt_ofMem pm ((soV_bit hm a).1 ha)
  obtain ⟨j, hj, rfl⟩ := elt_ofMem pm ((soV_bit hm b).1 hb)
  obtain ⟨p, hp, rfl⟩ := elt_ofMem pm ((soV_bit hm c).1 hc)
  obtain ⟨q, hq, rfl⟩ := elt_ofMem pm ((soV_bit hm d).1 hd)
  rw [e] at hi hj hp hq
  rcases key i j p q hi hj hp hq ((k2_iff hk hi hj hp hq).2 e2) with ⟨rfl, rfl⟩ | ⟨rfl, rfl⟩
  · exact ⟨rfl, rfl⟩
  · exact ⟨Nat.le_antisymm hab hcd, Nat.le_antisymm hcd hab⟩
/-- The law of isomorphisms. -/
theorem iso_law {os hs l m : List Int} (h : fsB os hs l m = true) : soB os l = true ∧ soB hs m = true ∧ popc (sumS os (soV os l) (soV os l)) = popc (sumS hs (soV hs m) (soV hs m)) ∧
    sqL (tbl os (soV os l) (soV os l)) = sqL (tbl hs (soV hs m) (soV hs m)) ∧ sidB os (soV os l : Int) = sidB hs (soV hs m : Int) := by
  have hf := h
  unfold fsB at hf
  rw [Bool.and_eq_true] at hf
  obtain ⟨f1, f2⟩ := hf
  unfold fmB at f1 f2
  rw [Bool.and_eq_true] at f1 f2
  obtain ⟨s1, n1, e1, i1⟩ := fiB_parts f1.1
  obtain ⟨s2, n2, e2, i2⟩ := fiB_parts f2.1
  obtain ⟨hg, -⟩ := so_parts' s1
  obtain ⟨hh, -⟩ := so_parts' s2
  have hk : k2B os hs l m l.length = true := by
    unfold k2B
    rw [f1.2, ← e1, f2.2]; rfl
  have hk2 : k2B hs os m l m.length = true := by rw [e1]; exact k2_swap hk
  refine ⟨s1, s2, Nat.le_antisymm (sums_le s1 s2 e1 hk) (sums_le s2 s1 e2 hk2), ?_, ?_⟩
  · rw [energy_qd s1, energy_qd s2, qd_ix, qd_ix, e1]
    congr 1
    refine ns_congr fun i hi => ns_congr fun j hj => ns_congr fun p hp => ns_congr fun q hq => ?_
    congr 1
    rw [Bool.eq_iff_iff, beq_iff_eq, beq_iff_eq]
    exact k2_iff hk hp hq hi hj
  · have lt1 := soV_lt s1
    have lt2 := soV_lt s2
    have a64 := lt64 (show gn os ≤ 64 by have := (grp_gn hg).2.2.1; omega) lt1
    have b64 := lt64 (show gn hs ≤ 64 by have := (grp_gn hh).2.2.1; omega) lt2
    have t1 : setB os (soV os l : Int) = true := by
      simp only [setB, hg, (grp_gn hg).2.2.2.2, Bool.true_and, Bool.and_eq_true, decide_eq_true_eq]
      exact ⟨by omega, by exact_mod_cast lt1⟩
    have t2 : setB hs (soV hs m : Int) = true := by
      simp only [setB, hh, (grp_gn hh).2.2.2.2, Bool.true_and, Bool.and_eq_true, decide_eq_true_eq]
      exact ⟨by omega, by exact_mod_cast lt2⟩
    have k1 : sidB os (soV os l : Int) = true ↔ SidE os (soV os l) := by rw [← sidE_iff a64]; unfold sidB; rw [t1]; simp
    have k2 : sidB hs (soV hs m : Int) = true ↔ SidE hs (soV hs m) := by rw [← sidE_iff b64]; unfold sidB; rw [t2]; simp
    rw [Bool.eq_iff_iff, k1, k2]
    exact ⟨sid_half s1 s2 e1 hk, sid_half s2 s1 e2 hk2⟩
end Go.Proofs.Ytokpgbpdmfibjaa

namespace Go.Proofs.Ytokpgbpdmfibjaa
open Go.RowKit Go.ChangeShapes
set_option linter.unusedVariables false
set_option linter.unusedSimpArgs false

/-- What FreimanRank returns. -/
noncomputable def fkV (os l : List Int) : Int := if soB os l = true ∧ cfB os [2] (soV os l : Int) = true then ((cfV os [2] (soV os l : Int)).toNat.log2 : Int) - 1 else -1
theorem cf_two {os : List Int} {a : Nat} (h : cfB os [2] (a : Int) = true) : ∃ e, cfV os [2] (a : Int) = ((2 ^ e : Nat) : Int) ∧ 1 ≤ e ∧ e ≤ 4 ∧ e ≤ popc a := by
  obtain ⟨hg, ⟨m, hm, h1, h2, h3⟩, hh, h5⟩ := cfB_parts h
  obtain rfl : a = m := by omega
  have hml : (mems a).length = popc a := mems_length a
  obtain ⟨e, he, hp⟩ := cm_pow (os := os) (l := mems a)
  have hge := cm_ge (os := os) (hs := [2]) (l := mems a) (N := 2) (by omega)
  rw [hml] at he hp hge
  have hv : cfV os [2] (a : Int) = ((2 ^ e : Nat) : Int) := by
    unfold cfV
    rw [if_pos h, Int.toNat_natCast, show gn [2] = 2 from rfl, hp]
  refine ⟨e, hv, ?_, by omega, he⟩
  cases e with
  | zero => rw [hp] at hge; simp at hge
  | succ e => omega
theorem fk_val {os l : List Int} {e : Nat} (hs : soB os l = true) (h : cfB os [2] (soV os l : Int) = true) (hv : cfV os [2] (soV os l : Int) = ((2 ^ e : Nat) : Int)) : fkV os l = (e : Int) - 1 := by
  unfold fkV
  rw [if_pos ⟨hs, h⟩, hv, Int.toNat_natCast, Nat.log2_two_pow]
theorem pw_step {e j : Nat} (h : j < e) : 2 ^ (e - j) = 2 * 2 ^ (e - (j + 1)) := by
  rw [show e - j = (e - (j + 1)) + 1 by omega, Nat.pow_succ, Nat.mul_comm]
theorem pw_bd {e j : Nat} (he : e ≤ 4) : 1 ≤ 2 ^ (e - j) ∧ 2 ^ (e - j) ≤ 16 := by
  refine ⟨Nat.two_pow_pos _, ?_⟩
  have := Nat.pow_le_pow_right (n := 2) (by decide) (show e - j ≤ 4 by omega)
  simpa using this
set_option maxRecDepth 20000 in
set_option maxHeartbeats 3200000 in
theorem fk_impl (a0 : Option Addr) (c0 : Nat) (os : List Int) (a1 : Option Addr) (c1 : Nat) (l : List Int) (w : World) (h0 : Ints w a0 c0 os) (k0 : Ints w a1 c1 l) (hl : os.length ≤ 2000000) (hll : l.length ≤ 2000000) :
    Calls Try.prog 67 #[.agg #[.slice a0 os.length c0], .slice a1 l.length c1] w fun e w' => e = .returned (.int .i64 (fkV os l)) ∧ Below w.heap.size w w' := by
  have hb0 := (Below.refl w.heap.size w).alloc (Nat.le_refl _) (.cells #[.slice a0 os.length c0] 26)
  have C := Lib.hid (fun w h h' => setOf_impl a0 c0 os a1 c1 l w h h' hl hll)
  cases hs : soB os l with
  | false =>
    have e : fkV os l = -1 := by unfold fkV; rw [hs]; simp
    rw [e]
    rw [hs] at C
    obtain ⟨V, hV⟩ : ∃ V, V = soV os l := ⟨_, rfl⟩
    rw [← hV] at C
    clear hs hV e
    go_enter Try.func67, Try.ntmps67
    go_wp2_with fail
    refine (C.out _ (h0.below hb0 (Nat.le_refl _)) (k0.below hb0 (Nat.le_refl _))).mono ?_; rintro e w1 ⟨rfl, b1⟩
    go_wp2_with fail
    go_ret
    exact ⟨rfl, nx hb0 b1⟩
  | true =>
    rw [hs] at C
    have CF := Lib.hid (fun g w h h2 => cfm_impl a0 c0 os (some ⟨g, 0, none⟩) 1 [2] (soV os l : Int) w h h2 hl (by simp))
    rw [show [(2 : Int)].length = 1 from rfl] at CF
    cases hc : cfB os [2] (soV os l : Int) with
    | false =>
      have e : fkV os l = -1 := by unfold fkV; rw [hc]; simp
      have ev : cfV os [2] (soV os l : Int) = -1 := by unfold cfV; rw [hc]; simp
      rw [e]
      rw [ev] at CF
      obtain ⟨V, hV⟩ : ∃ V, V = soV os l := ⟨_, rfl⟩
      rw [← hV] at C CF
      clear hs hV e hc ev
      go_enter Try.func67, Try.ntmps67
      go_wp2_with fail
      refine (C.out _ (h0.below hb0 (Nat.le_refl _)) (k0.below hb0 (Nat.le_refl _))).mono ?_; rintro e w1 ⟨rfl, b1⟩
      have q1 := box_cell b1 (by simp)
      have hb1 := nx hb0 b1
      have ho := OwnI.one (w := w1) (B := w1.heap.size) (x := 2) rfl (Nat.le_refl _) (by decide)
      have al := (Below.refl w1.heap.size w1).alloc (Nat.le_refl _) (.cells #[.int .i64 2] 3)
      have CF2 := Lib.hid (CF.out w1.heap.size _ ((h0.below hb1 (Nat.le_refl _)).below al (Nat.le_refl _)) ho.ints)
      have hb2 := nx hb1 al
      clear b1 ho al CF
      go_wp2_with fail
      refine CF2.out.mono ?_; rintro e w3 ⟨rfl, b3⟩
      have hb3 := nx hb2 b3
      go_wp2_with fail
      go_ret
      exact ⟨rfl, hb3⟩
    | true =>
      obtain ⟨n, ev, hn1, hn4, -⟩ := cf_two hc
      have e := fk_val hs hc ev
      rw [e]
      rw [ev] at CF
      have HB := Lib.hid (fun j => pw_bd (e := n) (j := j) hn4)
      have HS := Lib.hid (fun j (h : j < n) => pw_step h)
      obtain ⟨V, hV⟩ : ∃ V, V = soV os l := ⟨_, rfl⟩
      rw [← hV] at C CF
      obtain ⟨P0, hP0⟩ : ∃ p, p = 2 ^ n := ⟨_, rfl⟩
      rw [← hP0] at CF
      have HP0 : Hid (P0 = 2 ^ (n - 0)) := Lib.hid hP0
      have hP1 : 1 ≤ P0 ∧ P0 ≤ 16 := by have := HB.out 0; rw [Nat.sub_zero, ← hP0] at this; exact this
      have hPn : ¬ ((P0 : Int) < 0) := by omega
      clear hs hV e hc ev hP0
      go_enter Try.func67, Try.ntmps67
      go_wp2_with fail
      refine (C.out _ (h0.below hb0 (Nat.le_refl _)) (k0.below hb0 (Nat.le_refl _))).mono ?_; rintro e w1 ⟨rfl, b1⟩
      have q1 := box_cell b1 (by simp)
      have hb1 := nx hb0 b1
      have ho := OwnI.one (w := w1) (B := w1.heap.size) (x := 2) rfl (Nat.le_refl _) (by decide)
      have al := (Below.refl w1.heap.size w1).alloc (Nat.le_refl _) (.cells #[.int .i64 2] 3)
      have CF2 := Lib.hid (CF.out w1.heap.size _ ((h0.below hb1 (Nat.le_refl _)).below al (Nat.le_refl _)) ho.ints)
      have hb2 := nx hb1 al
      clear b1 ho al CF
      go_wp2_with fail
      refine CF2.out.mono ?_; rintro e w3 ⟨rfl, b3⟩
      have hb3 := nx hb2 b3
      go_wp2_with fail
      go_loopw [7, 8] (fun vn ve wr => ∃ (j P : Nat), j ≤ n ∧ vn = .int .i64 (P : Int) ∧ ve = .int .i64 (j : Int) ∧ Hid (P = 2 ^ (n - j)) ∧ 1 ≤ P ∧ P ≤ 16 ∧ wr = w3) (fun _ ve _ => n - (intOf ve).toNat)
      case atStart => exact ⟨0, P0, by omega, rfl, rfl, HP0, hP1.1, hP1.2, rfl⟩
      case round =>
        clear hP1 hPn
        obtain ⟨j, P, hj, rfl, rfl, HP, hp1, hp2, rfl⟩ := hrel
        by_cases hjn : j < n
        · have hst := HS.out j hjn
          rw [← HP.out] at hst
          obtain ⟨P', hP'⟩ : ∃ p, p = 2 ^ (n - (j + 1)) := ⟨_, rfl⟩
          rw [← hP'] at hst
          have e3 : (P : Int) % 2 = 0 := by omega
          have e5 : (P : Int) / 2 = (P' : Int) := by omega
          have e6 : (P : Int).tmod 2 = 0 := by rw [Int.tmod_eq_emod_of_nonneg (by omega)]; exact e3
          have e7 : (P : Int).tdiv 2 = (P' : Int) := by rw [Int.tdiv_eq_ediv_of_nonneg (by omega)]; exact e5
          have hp3 : 1 ≤ P' ∧ P' ≤ 16 := by omega
          have HP2 := Lib.hid hP'
          clear hst hP' HP
          go_wp2_with fail
          go_roundw
          case rel => exact ⟨j + 1, P', by omega, rfl, by go_num, HP2, hp3.1, hp3.2, by first | rfl | trivial⟩
          case measure => simp [intOf]; omega
        · obtain rfl : j = n := by omega
          obtain rfl : P = 1 := by have := HP.out; rw [Nat.sub_self] at this; exact this
          have hjw : IntKind.i64.wrap ((j : Int) - 1) = (j : Int) - 1 := by rw [IntKind.wrap_i64]; omega
          go_wp2_with fail
          go_ret
          exact ⟨rfl, hb3⟩
set_option maxRecDepth 20000 in
set_option maxHeartbeats 3200000 in
theorem fk_spec (a0 : Option Addr) (c0 : Nat) (os : List Int) (a1 : Option Addr) (c1 : Nat) (l : List Int) (w : World) (h0 : Ints w a0 c0 os) (k0 : Ints w a1 c1 l) (hl : os.length ≤ 2000000) (hll : l.length ≤ 2000000) :
    Calls Try.prog 71 #[.agg #[.slice a0 os.length c0], .slice a1 l.length c1] w fun e w' => e = .returned (.int .i64 (fkV os l)) ∧ Below w.heap.size w w' := by
  have hb0 := (Below.refl w.heap.size w).alloc (Nat.le_refl _) (.cells #[.slice a0 os.length c0] 26)
  have C := Lib.hid (fun w h h' => setOf_spec a0 c0 os a1 c1 l w h h' hl hll)
  cases hs : soB os l with
  | false =>
    have e : fkV os l = -1 := by unfold fkV; rw [hs]; simp
    rw [e]
    rw [hs] at C
    obtain ⟨V, hV⟩ : ∃ V, V = soV os l := ⟨_, rfl⟩
    rw [← hV] at C
    clear hs hV e
    go_enter Try.func71, Try.ntmps71
    go_wp2_with fail
    refine (C.out _ (h0.below hb0 (Nat.le_refl _)) (k0.below hb0 (Nat.le_refl _))).mono ?_; rintro e w1 ⟨rfl, b1⟩
    go_wp2_with fail
    go_ret
    exact ⟨rfl, nx hb0 b1⟩
  | true =>
    rw [hs] at C
    have CF := Lib.hid (fun g w h h2 => cfm_spec a0 c0 os (some ⟨g, 0, none⟩) 1 [2] (soV os l : Int) w h h2 hl (by simp))
    rw [show [(2 : Int)].length = 1 from rfl] at CF
    cases hc : cfB os [2] (soV os l : Int) with
    | false =>
      have e : fkV os l = -1 := by unfold fkV; rw [hc]; simp
      have ev : cfV os [2] (soV os l : Int) = -1 := by unfold cfV; rw [hc]; simp
      rw [e]
      rw [ev] at CF
      obtain ⟨V, hV⟩ : ∃ V, V = soV os l := ⟨_, rfl⟩
      rw [← hV] at C CF
      clear hs hV e hc ev
      go_enter Try.func71, Try.ntmps71
      go_wp2_with fail
      refine (C.out _ (h0.below hb0 (Nat.le_refl _)) (k0.below hb0 (Nat.le_refl _))).mono ?_; rintro e w1 ⟨rfl, b1⟩
      have q1 := box_cell b1 (by simp)
      have hb1 := nx hb0 b1
      have ho := OwnI.one (w := w1) (B := w1.heap.size) (x := 2) rfl (Nat.le_refl _) (by decide)
      have al := (Below.refl w1.heap.size w1).alloc (Nat.le_refl _) (.cells #[.int .i64 2] 3)
      have CF2 := Lib.hid (CF.out w1.heap.size _ ((h0.below hb1 (Nat.le_refl _)).below al (Nat.le_refl _)) ho.ints)
      have hb2 := nx hb1 al
      clear b1 ho al CF
      go_wp2_with fail
      refine CF2.out.mono ?_; rintro e w3 ⟨rfl, b3⟩
      have hb3 := nx hb2 b3
      go_wp2_with fail
      go_loopw [8, 9] (fun vk vx wr => vk = .int .i64 (-1) ∧ vx = .int .i64 (-1) ∧ wr = w3) (fun _ _ _ => 0)
      case atStart => exact ⟨rfl, rfl, rfl⟩
      case round =>
        obtain ⟨rfl, rfl, rfl⟩ := hrel
        go_wp2_with fail
        go_ret
        exact ⟨rfl, hb3⟩
    | true =>
      obtain ⟨n, ev, hn1, hn4, -⟩ := cf_two hc
      have e := fk_val hs hc ev
      rw [e]
      rw [ev] at CF
      have HB := Lib.hid (fun j => pw_bd (e := n) (j := j) hn4)
      have HS := Lib.hid (fun j (h : j < n) => pw_step h)
      obtain ⟨V, hV⟩ : ∃ V, V = soV os l := ⟨_, rfl⟩
      rw [← hV] at C CF
      obtain ⟨P0, hP0⟩ : ∃ p, p = 2 ^ n := ⟨_, rfl⟩
      rw [← hP0] at CF
      have HP0 : Hid (P0 = 2 ^ (n - 0)) := Lib.hid hP0
      have hP1 : 1 ≤ P0 ∧ P0 ≤ 16 := by have := HB.out 0; rw [Nat.sub_zero, ← hP0] at this; exact this
      have hPn : ¬ ((P0 : Int) < 0) := by omega
      clear hs hV e hc ev hP0
      go_enter Try.func71, Try.ntmps71
      go_wp2_with fail
      refine (C.out _ (h0.below hb0 (Nat.le_refl _)) (k0.below hb0 (Nat.le_refl _))).mono ?_; rintro e w1 ⟨rfl, b1⟩
      have q1 := box_cell b1 (by simp)
      have hb1 := nx hb0 b1
      have ho := OwnI.one (w := w1) (B := w1.heap.size) (x := 2) rfl (Nat.le_refl _) (by decide)
      have al := (Below.refl w1.heap.size w1).alloc (Nat.le_refl _) (.cells #[.int .i64 2] 3)
      have CF2 := Lib.hid (CF.out w1.heap.size _ ((h0.below hb1 (Nat.le_refl _)).below al (Nat.le_refl _)) ho.ints)
      have hb2 := nx hb1 al
      clear b1 ho al CF
      go_wp2_with fail
      refine CF2.out.mono ?_; rintro e w3 ⟨rfl, b3⟩
      have hb3 := nx hb2 b3
      go_wp2_with fail
      go_loopw [8, 9] (fun vk vx wr => ∃ (j P : Nat), j ≤ n ∧ vx = .int .i64 (P : Int) ∧ vk = .int .i64 ((j : Int) - 1) ∧ Hid (P = 2 ^ (n - j)) ∧ 1 ≤ P ∧ P ≤ 16 ∧ wr = w3) (fun _ vx _ => (intOf vx).toNat)
      case atStart => exact ⟨0, P0, by omega, rfl, rfl, HP0, hP1.1, hP1.2, rfl⟩
      case round =>
        clear hP1 hPn
        obtain ⟨j, P, hj, rfl, rfl, HP, hp1, hp2, rfl⟩ := hrel
        by_cases hjn : j < n
        · have hst := HS.out j hjn
          rw [← HP.out] at hst
          obtain ⟨P', hP'⟩ : ∃ p, p = 2 ^ (n - (j + 1)) := ⟨_, rfl⟩
          rw [← hP'] at hst
          have e5 : (P : Int) / 2 = (P' : Int) := by omega
          have e7 : (P : Int).tdiv 2 = (P' : Int) := by rw [Int.tdiv_eq_ediv_of_nonneg (by omega)]; exact e5
          have hp3 : 1 ≤ P' ∧ P' ≤ 16 := by have := (HB.out (j + 1)).1; omega
          have hg1 : (1 : Int) < (P : Int) := by omega
          have hk1 : (j : Int) - 1 + 1 = (j : Int) := by omega
          have hjw : IntKind.i64.wrap ((j : Int) - 1 + 1) = (j : Int) := by rw [IntKind.wrap_i64]; omega
          have HP2 := Lib.hid hP'
          have hlt : P' < P := by omega
          clear hst hP' HP
          go_wp2_with fail
          go_roundw
          case rel => exact ⟨j + 1, P', by omega, rfl, by (first | rfl | (congr 1; omega)), HP2, hp3.1, hp3.2, by first | rfl | trivial⟩
          case measure => simp [intOf]; omega
        · obtain rfl : j = n := by omega
          obtain rfl : P = 1 := by have := HP.out; rw [Nat.sub_self] at this; exact this
          have hg1 : ¬ ((1 : Int) < 1) := by omega
          go_wp2_with fail
          go_ret
          exact ⟨rfl, hb3⟩
end Go.Proofs.Ytokpgbpdmfibjaa

namespace Go.Proofs.Ytokpgbpdmfibjaa
open Go.RowKit Go.ChangeShapes
set_option linter.unusedVariables false

theorem fs_comm (os hs l m : List Int) : fsB os hs l m = fsB hs os m l := by unfold fsB; exact Bool.and_comm _ _
theorem cf_ge (os hs : List Int) (a : Int) : cfV os hs a < 0 ∨ (0 ≤ cfV os hs a ∧ ordV hs ≤ cfV os hs a) := by
  by_cases h : cfB os hs a = true
  · right
    obtain ⟨hg, ⟨m, rfl, h1, h2, h3⟩, hh, h5⟩ := cfB_parts h
    have hml : (mems m).length = popc m := mems_length m
    have hge := cm_ge (os := os) (hs := hs) (l := mems m) (N := gn hs) (by omega)
    rw [hml] at hge
    have g5 := (grp_gn hh).2.2.2.1
    have ho : ordV hs = gord hs := by simp [ordV, hh]
    unfold cfV
    rw [if_pos h, Int.toNat_natCast, ho, ← g5]
    omega
  · left
    unfold cfV
    rw [if_neg h]
    omega
theorem fk_le (os l : List Int) : fkV os l ≤ (l.length : Int) := by
  by_cases h : soB os l = true ∧ cfB os [2] (soV os l : Int) = true
  · obtain ⟨e, he, h1, h4, hp⟩ := cf_two h.2
    rw [soV_popc h.1] at hp
    rw [fk_val h.1 h.2 he]
    omega
  · unfold fkV
    rw [if_neg h]
    omega
theorem setB_ofF {os : List Int} {a : Nat} (hg : grpB os = true) (h : a < 2 ^ gn os) : setB os (a : Int) = true := by
  simp only [setB, hg, (grp_gn hg).2.2.2.2, Bool.true_and, Bool.and_eq_true, decide_eq_true_eq]
  exact ⟨by omega, by exact_mod_cast h⟩
theorem cnt_sosF {os : List Int} {a : Nat} (hg : grpB os = true) (h : a < 2 ^ gn os) : cntV os (sosV os (a : Int) (a : Int)) = (popc (sumS os a a) : Int) := by
  have g24 := (grp_gn hg).2.2.1
  have h64 := lt64 (show gn os ≤ 64 by omega) h
  have hs := setB_ofF hg h
  have hS : sumS os a a < 2 ^ gn os := by
    refine Nat.lt_pow_two_of_testBit _ fun i hi => ?_
    rw [Bool.eq_false_iff]
    intro hb
    obtain ⟨p, q, _, _, e⟩ := (sumS_iff h64 h64 i).1 hb
    have := gadd_lt' (grp_gn hg).1 p q
    omega
  rw [sosV_of hs hs]
  unfold cntV
  rw [if_pos (setB_ofF hg hS), Int.toNat_natCast]
theorem iso_facts {os hs l m : List Int} (h : fsB os hs l m = true) : ∃ (A B : Nat) (C E : Int) (S : Bool), soV os l = A ∧ soV hs m = B ∧ grpB os = true ∧ grpB hs = true ∧ A < 2 ^ gn os ∧ B < 2 ^ gn hs ∧ cntV os (sosV os (A : Int) (A : Int)) = C ∧ cntV hs (sosV hs (B : Int) (B : Int)) = C ∧
    sqL (tbl os A A) = E ∧ sqL (tbl hs B B) = E ∧ sidB os (A : Int) = S ∧ sidB hs (B : Int) = S ∧ fmB os hs l m = true := by
  obtain ⟨s1, s2, e1, e2, e3⟩ := iso_law h
  obtain ⟨hg, -⟩ := so_parts' s1
  obtain ⟨hh, -⟩ := so_parts' s2
  have l1 := soV_lt s1
  have l2 := soV_lt s2
  refine ⟨soV os l, soV hs m, _, _, _, rfl, rfl, hg, hh, l1, l2, rfl, ?_, rfl, e2.symm, rfl, e3.symm, ?_⟩
  · rw [cnt_sosF hg l1, cnt_sosF hh l2, e1]
  · unfold fsB at h
    rw [Bool.and_eq_true] at h
    exact h.1
theorem ff_facts {os hs : List Int} {a b : Int} {R : List Int} {q : Bool} (hR : R = (ffO os hs a b).getD []) (hq : q = (ffO os hs a b).isSome) (h : q = true) : ∃ A : Nat, a = (A : Int) ∧ setB os (A : Int) = true ∧ (imV hs R : Int) = b ∧ imB hs R = true ∧ fsB os hs (mems A) R = true ∧ (mems A).length ≤ 6 ∧ R.length ≤ 5 := by
  rw [h] at hq
  obtain ⟨y, hy⟩ := Option.isSome_iff_exists.1 hq.symm
  rw [hy, Option.getD_some] at hR
  obtain ⟨h1, ⟨A, B, h2, h3, h4, h5, h6, h7⟩, h8, h9⟩ := ff_law hy
  rw [hR]
  have hf := h7
  unfold fsB fmB at hf
  rw [Bool.and_eq_true, Bool.and_eq_true] at hf
  obtain ⟨s1, n1, e1, i1⟩ := fiB_parts hf.1.1
  exact ⟨A, h2, by rw [← h2]; exact h9, by rw [h3]; exact h5, h6, h7, n1.2, h8⟩
set_option maxRecDepth 20000 in
theorem lsO_spec (a0 : Option Addr) (c0 : Nat) (os : List Int) (a : Nat) (w : World) (h0 : Ints w a0 c0 os) (hl : os.length ≤ 2000000) (hs : setB os (a : Int) = true) :
    Calls Try.prog 62 #[.agg #[.slice a0 os.length c0], .int .i64 a] w (GaveI w (mems a)) := by
  have hb0 := (Below.refl w.heap.size w).alloc (Nat.le_refl _) (.cells #[.slice a0 os.length c0] 26)
  have h1 := h0.below hb0 (Nat.le_refl _)
  have C := Lib.hid (isSet_spec a0 c0 os (a : Int) _ h1 hl)
  rw [hs] at C
  have ha : a < 1099511627776 := by
    obtain ⟨hg, A, e, hA⟩ := setB_parts hs
    obtain ⟨g2, g3, g4, g5, g6⟩ := grp_gn hg
    rw [g6] at hA
    have : 2 ^ gn os ≤ 2 ^ 24 := Nat.pow_le_pow_right (by omega) (by omega)
    omega
  have C2 := Lib.hid (l3List_any a ha)
  clear h0 h1 hs ha
  go_enter Try.func62, Try.ntmps62
  go_wp2_with fail
  refine C.out.mono ?_; rintro e w1 ⟨rfl, b1⟩
  have B1 := nx hb0 b1
  clear b1 hb0 C
  go_wp2_with fail
  refine (C2.out w1).mono ?_; rintro e w2 ⟨a2, c2, rfl, o2, b2⟩
  have B2 := nx B1 b2
  have hs2 := B1.size
  go_wp2_with fail
  go_ret
  exact ⟨a2, c2, rfl, o2.mono hs2, B2⟩
end Go.Proofs.Ytokpgbpdmfibjaa

namespace Go.Proofs.Ytokpgbpdmfibjaa
open Go.RowKit Go.ChangeShapes
set_option linter.unusedVariables false

theorem popc_gnE {os : List Int} {m : Nat} (hn : gn os ≤ 64) (h : m < 2 ^ gn os) : popc m ≤ gn os := by
  have := popc_disj hn h (Nat.two_pow_pos (gn os)) (b := 0) (fun i _ h => by simp at h)
  omega
theorem OwnI.addrE {w : World} {B : Nat} {a : Option Addr} {cap : Nat} {xs : List Int} (h : OwnI w B a cap xs) (hx : 0 < xs.length) : ∃ g, a = some ⟨g, 0, none⟩ := by
  rcases h.2.2 with ⟨hv, hn⟩ | ⟨g, c, cur, hv, hg, hh, hnc, hcm, hcs, htake⟩
  · omega
  · simp only [Value.slice.injEq, true_and] at hv
    obtain ⟨rfl, rfl⟩ := hv
    exact ⟨g, rfl⟩
theorem tN_leE {os : List Int} (hos : ordsIn os = true) {A B : List Int} {z : Nat} (hz : z < gn os) : tN os A B z ≤ A.length * B.length := by
  rw [← tN_all hos]
  have : ∀ k, z < k → tN os A B z ≤ ns (tN os A B) k := by
    intro k
    induction k with
    | zero => intro h; omega
    | succ k ih =>
      intro h
      show tN os A B z ≤ ns (tN os A B) k + tN os A B k
      by_cases e : z = k
      · subst e; omega
      · have := ih (by omega); omega
  exact this _ hz
/-- The sums of pairs are bounded. -/
theorem tbl_bdE {os : List Int} (hg : grpB os = true) {a b : Nat} (ha : a < 2 ^ gn os) (hb : b < 2 ^ gn os) : ∀ x ∈ tbl os a b, 0 ≤ x ∧ x ≤ 576 := by
  obtain ⟨g2, g3, g4, g5, g6⟩ := grp_gn hg
  intro x hx
  obtain ⟨i, hi, rfl⟩ := List.getElem_of_mem hx
  have hl := tbl_len os a b
  have h1 := tbl_get g2 a b (i := i) (by omega)
  have h2 : (tbl os a b).getD i 0 = (tbl os a b)[i] := by simp [List.getD, hi]
  rw [← h2, h1]
  have h3 := tN_leE g2 (A := mems a) (B := mems b) (z := i) (by omega)
  rw [mems_length, mems_length] at h3
  have h4 := popc_gnE (show gn os ≤ 64 by omega) ha
  have h5 := popc_gnE (show gn os ≤ 64 by omega) hb
  have h6 : popc a * popc b ≤ 24 * 24 := Nat.mul_le_mul (by omega) (by omega)
  omega
theorem sqL_bdE : ∀ (t : List Int) (k : Nat), (∀ x ∈ t, 0 ≤ x ∧ x ≤ 576) → k ≤ t.length → 0 ≤ sqL (t.take k) ∧ sqL (t.take k) ≤ 331776 * k
  | t, 0, _, _ => by simp [sqL]
  | t, k + 1, h, hk => by
    have ih := sqL_bdE t k h (by omega)
    rw [sqL_take (by omega)]
    have hx := h _ (List.getElem_mem (show k < t.length by omega))
    have h1 : t[k] * t[k] ≤ 576 * 576 := Int.mul_le_mul hx.2 hx.2 hx.1 (by omega)
    have h2 : 0 ≤ t[k] * t[k] := Int.mul_nonneg hx.1 hx.1
    omega
set_option maxRecDepth 20000 in
set_option maxHeartbeats 1600000 in
theorem energy_spec (a0 : Option Addr) (c0 : Nat) (os : List Int) (a b : Nat) (w : World) (h0 : Ints w a0 c0 os) (hl : os.length ≤ 2000000) (hg0 : grpB os = true) (ha : a < 2 ^ gn os) (hb : b < 2 ^ gn os) :
    Calls Try.prog 56 #[.agg #[.slice a0 os.length c0], .int .i64 a, .int .i64 b] w fun e w' => e = .returned (.int .i64 (sqL (tbl os a b))) ∧ Below w.heap.size w w' := by
  have hb0 := (Below.refl w.heap.size w).alloc (Nat.le_refl _) (.cells #[.slice a0 os.length c0] 26)
  have h1 := h0.below hb0 (Nat.le_refl _)
  obtain ⟨g2, g3, g4, g5, g6⟩ := grp_gn hg0
  have C := Lib.hid (sumTable_spec a0 c0 os a b _ h1 hl hg0 (by rw [g6]; exact ha) (by rw [g6]; exact hb))
  have hbd := tbl_bdE hg0 ha hb
  have hlen := tbl_len os a b
  obtain ⟨T, hT⟩ : ∃ T, T = tbl os a b := ⟨_, rfl⟩
  rw [← hT] at C hbd hlen ⊢
  have HBD := Lib.hid hbd
  have hT0 : 1 ≤ T.length := by omega
  have hT1 : T.length ≤ 24 := by omega
  have hlz : ((T.length : Int) == 0) = false := by rw [beq_eq_false_iff_ne]; omega
  clear hT hbd hlen g2 g3 g4 g5 g6 h1 h0 ha hb
  go_enter Try.func56, Try.ntmps56
  go_wp2_with fail
  refine C.out.mono ?_; rintro e w1 ⟨a1, c1, rfl, o1, b1⟩
  have B1 := nx hb0 b1
  clear b1 hb0 C
  go_wp2_with fail
  obtain ⟨W, hW⟩ : ∃ W, W = w1 := ⟨_, rfl⟩
  go_loopw [8, 9] (fun vn vi wr => ∃ k : Nat, k ≤ T.length ∧ vi = .int .i64 (k : Int) ∧ vn = .int .i64 (sqL (T.take k)) ∧ OwnI wr (w.alloc (.cells #[.slice a0 os.length c0] 26)).heap.size a1 c1 T ∧ Below w.heap.size w wr) (fun _ vi _ => T.length - (intOf vi).toNat)
  case atStart => exact ⟨0, Nat.zero_le _, rfl, by simp [sqL], o1, B1⟩
  case round =>
    clear o1 B1
    obtain ⟨k, hk, rfl, rfl, o2, B2⟩ := hrel
    by_cases hlt : k < T.length
    · obtain ⟨g, rfl⟩ := o2.addrE (by omega)
      have hc := o2.cell k hlt
      have hs := sqL_bdE T k HBD.out hk
      have ht := sqL_take hlt
      have hx := HBD.out _ (List.getElem_mem hlt)
      obtain ⟨x, hx1⟩ : ∃ x, x = T[k]'hlt := ⟨_, rfl⟩
      rw [← hx1] at hc ht hx
      have h1 : x * x ≤ 576 * 576 := Int.mul_le_mul hx.2 hx.2 hx.1 (by omega)
      have h2 : 0 ≤ x * x := Int.mul_nonneg hx.1 hx.1
      obtain ⟨s, hs1⟩ : ∃ s, s = sqL (T.take k) := ⟨_, rfl⟩
      obtain ⟨t, ht1⟩ : ∃ t, t = sqL (T.take (k + 1)) := ⟨_, rfl⟩
      rw [← hs1] at hs ht ⊢
      rw [← ht1] at ht
      obtain ⟨X, hX⟩ : ∃ X, X = x * x := ⟨_, rfl⟩
      rw [← hX] at ht
      have hw1 : IntKind.i64.wrap (x * x) = X := by rw [← hX, IntKind.wrap_i64]; omega
      have hw3 : IntKind.i64.wrap X = X := by rw [IntKind.wrap_i64]; omega
      have hw2 : IntKind.i64.wrap (s + X) = t := by rw [IntKind.wrap_i64]; omega
      have HT1 := Lib.hid ht1
      have hi1 : (k : Int) < (T.length : Int) := by omega
      clear hx h1 h2 hs hX hx1 hs1 ht ht1
      go_wp2_with fail
      refine wp_region_quiet_lit (by kernel_rfl) (by kernel_rfl) ?_
      repeat (any_goals (first | go_big_quiet_step (fail) | quiet_step (fail)))
      refine wpQuiet_nil ?_
      intro _ hw'
      obtain ⟨nq, hw''⟩ := hw'
      subst hw''
      go_wp2_with fail
      go_roundw
      case rel => exact ⟨k + 1, by omega, by go_num, by rw [HT1.out], o2, below_drewN B2 _⟩
      case measure => simp [intOf]; omega
    · obtain rfl : k = T.length := by omega
      rw [List.take_length]
      go_wp2_with fail
      go_ret
      exact ⟨rfl, B2⟩
end Go.Proofs.Ytokpgbpdmfibjaa
