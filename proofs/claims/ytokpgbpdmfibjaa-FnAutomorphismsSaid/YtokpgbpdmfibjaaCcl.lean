/-
Contracts of both sides' CountClasses. Conditions: lengths at most 2000000.
-/
import Derived.Test.YtokpgbpdmfibjaaCan
import Derived.Test.YtokpgbpdmfibjaaCsf
import Derived.Test.YtokpgbpdmfibjaaPop
namespace Go.Proofs.Ytokpgbpdmfibjaa
open Go.RowKit Go.ChangeShapes
set_option linter.unusedVariables false

/-- How many sets below a number have n elements and are the least of their class. -/
noncomputable def ccN (os : List Int) (n : Nat) : Nat → Nat
  | 0 => 0
  | a + 1 => ccN os n a + if popc a = n ∧ caV os a = a then 1 else 0
theorem ccN_le (os : List Int) (n : Nat) : ∀ a, ccN os n a ≤ a
  | 0 => Nat.le_refl _
  | a + 1 => by
    have := ccN_le os n a
    unfold ccN
    split <;> omega
def ccB (os : List Int) (n : Int) : Bool := grpB os && (decide (gn os ≤ 8) && inB n 0 8)
noncomputable def ccR (os : List Int) (n : Int) : Int := if ccB os n = true then (ccN os n.toNat (2 ^ gn os) : Int) else -1

set_option maxRecDepth 20000 in
set_option maxHeartbeats 1600000 in
theorem ccl_impl (a0 : Option Addr) (c0 : Nat) (os : List Int) (m : Int) (w : World) (h0 : Ints w a0 c0 os) (hl : os.length ≤ 2000000) :
    Calls Try.prog 32 #[.agg #[.slice a0 os.length c0], .int .i64 m] w fun e w' => e = .returned (.int .i64 (ccR os m)) ∧ Below w.heap.size w w' := by
  have hb0 := (Below.refl w.heap.size w).alloc (Nat.le_refl _) (.cells #[.slice a0 os.length c0] 26)
  have h1 := h0.below hb0 (Nat.le_refl _)
  have CG := Lib.hid (fun w h => isGroup_impl a0 c0 os w h hl)
  cases hg : grpB os with
  | false =>
    have e : ccR os m = -1 := by simp [ccR, ccB, hg]
    rw [e]
    rw [hg] at CG
    clear hg e
    go_enter Try.func32, Try.ntmps32
    go_wp2_with fail
    refine (CG.out _ h1).mono ?_; rintro e w1 ⟨rfl, b1⟩
    go_wp2_with fail
    go_ret
    exact ⟨rfl, nx hb0 b1⟩
  | true =>
    rw [hg] at CG
    obtain ⟨g2, g3, g4, g5, g6⟩ := grp_gn hg
    have CO := Lib.hid (fun w h => orderOf_impl a0 c0 os w h hl)
    rw [show ordV os = gord os by simp [ordV, hg], ← g5] at CO
    by_cases h8 : gn os ≤ 8
    · cases hin : inB m 0 8 with
      | false =>
        have e : ccR os m = -1 := by simp [ccR, ccB, hin]
        rw [e]
        have HI := Lib.hid hin
        obtain ⟨n, hn⟩ : ∃ n, n = gn os := ⟨_, rfl⟩
        rw [← hn] at CO h8
        have hwn : IntKind.i64.wrap (n : Int) = n := wrap_in (by omega) (by omega)
        have hn8 : ¬ (n : Int) > 8 := by omega
        clear hg e hin hn g2 g3 g4 g5 g6
        go_enter Try.func32, Try.ntmps32
        go_wp2_with fail
        refine (CG.out _ h1).mono ?_; rintro e w1 ⟨rfl, b1⟩
        have q1 := box_cell b1 (by simp)
        have h2 := h1.below b1 (Nat.le_refl _)
        have hb1 := nx hb0 b1
        go_wp2_with fail
        refine (CO.out _ h2).mono ?_; rintro e w2 ⟨rfl, b2⟩
        go_wp2_with fail
        refine (within_is m 0 8 false HI.out _).mono ?_; rintro e w' ⟨rfl, rfl⟩
        go_wp2_with fail
        go_ret
        exact ⟨rfl, nx hb1 b2⟩
      | true =>
        obtain ⟨i1, i2⟩ := inB_true.1 hin
        have e : ccR os m = (ccN os m.toNat (2 ^ gn os) : Int) := by simp [ccR, ccB, hg, hin, h8]
        rw [e]
        obtain ⟨n, rfl⟩ := Int.eq_ofNat_of_zero_le i1
        rw [Int.toNat_natCast]
        have HI := Lib.hid hin
        have hM := Nat.pow_le_pow_right (n := 2) (by decide) h8
        have hM2 : (2 : Nat) ^ 8 = 256 := by decide
        have hat : atB os = true := by simp [atB, hg]; omega
        have hLL := atL_len os
        rw [show atL os = autL os by simp [atL, hat]] at hLL
        have CF := Lib.hid (fun w h => fullSet_any a0 c0 os w h hl hg)
        have CT := Lib.hid (fun w h => ats_impl a0 c0 os w h hl)
        rw [hat, show atL os = autL os by simp [atL, hat]] at CT
        have CC := Lib.hid (fun al cl vs a w h k ha => canonical_any a0 c0 os al cl (autL os) vs a w h k hl hg (by omega) (fun i hi => autL_mem hi) ha)
        simp only [show ∀ a, caI os (autL os) a (autL os).length = caV os a from fun a => rfl] at CC
        rw [g6] at CF
        obtain ⟨L, hL⟩ : ∃ L, L = autL os := ⟨_, rfl⟩
        rw [← hL] at CT CC hLL
        obtain ⟨U, hU⟩ : ∃ U, U = 2 ^ gn os - 1 := ⟨_, rfl⟩
        have hU1 : 2 ^ gn os = U + 1 := by have := Nat.two_pow_pos (gn os); omega
        rw [← hU] at CF
        rw [hU1] at CC hM ⊢
        have hUw : IntKind.i64.wrap ((U : Int) + 1) = (U : Int) + 1 := wrap_in (by omega) (by omega)
        have HK0 := Lib.hid (ccN_le os n)
        have hU256 : U ≤ 255 := by omega
        have hn8' : n ≤ 8 := by omega
        obtain ⟨N, hN⟩ : ∃ n, n = gn os := ⟨_, rfl⟩
        rw [← hN] at CO h8
        have hwn : IntKind.i64.wrap (N : Int) = N := wrap_in (by omega) (by omega)
        have hn8 : ¬ (N : Int) > 8 := by omega
        clear hg e hin hN g2 g3 g4 g5 g6 hM hM2 hat hL hU hU1 i1 i2
        go_enter Try.func32, Try.ntmps32
        go_wp2_with fail
        refine (CG.out _ h1).mono ?_; rintro e w1 ⟨rfl, b1⟩
        have q1 := box_cell b1 (by simp)
        have z1 : w.heap.size < w1.heap.size := by have := b1.size; simp at this; omega
        have h2 := h1.below b1 (Nat.le_refl _)
        have hb1 := nx hb0 b1
        clear b1 hb0 h1
        go_wp2_with fail
        refine (CO.out _ h2).mono ?_; rintro e w2 ⟨rfl, b2⟩
        have q2 := (b2.cell (p := ⟨w.heap.size, 0, none⟩) z1).trans q1
        have z2 := Nat.lt_of_lt_of_le z1 b2.size
        have hb2 := nx hb1 b2
        have h3 := h2.below b2 (Nat.le_refl _)
        clear b2 q1 z1 hb1 h2
        go_wp2_with fail
        refine (within_is (n : Int) 0 8 true HI.out _).mono ?_; rintro e w' ⟨rfl, rfl⟩
        go_wp2_with fail
        refine (CT.out _ h3).mono ?_; rintro e w3 ⟨al, cl, vs, rfl, o3, b3⟩
        have q3 := (b3.cell (p := ⟨w.heap.size, 0, none⟩) z2).trans q2
        have z3 := Nat.lt_of_lt_of_le z2 b3.size
        have hb3 := nx hb2 b3
        have h4 := h3.below b3 (Nat.le_refl _)
        have r3 := o3.rd
        clear b3 q2 z2 hb2 h3 o3
        go_wp2_with fail
        refine (CF.out _ h4).mono ?_; rintro e w4 ⟨rfl, b4⟩
        have q4 := (b4.cell (p := ⟨w.heap.size, 0, none⟩) z3).trans q3
        have z4 := Nat.lt_of_lt_of_le z3 b4.size
        have hb4 := nx hb3 b4
        have r4 := r3.below b4 (Nat.le_refl _)
        clear b4 q3 z3 hb3 h4 r3
        go_wp2_with fail
        go_loopw [7, 30] (fun vk vi wr => ∃ (a k : Nat), a ≤ U + 1 ∧ vi = .int .i64 (a : Int) ∧ vk = .int .i64 (k : Int) ∧ Hid (k = ccN os n a) ∧ k ≤ 256 ∧ Below w.heap.size w wr ∧ wr.cell? ⟨w.heap.size, 0, none⟩ = some (.slice a0 os.length c0) ∧ w.heap.size < wr.heap.size ∧ RdR wr al L.length (fun i => L.getD i []) vs) (fun _ i _ => U + 1 - (intOf i).toNat)
        case atStart => exact ⟨0, 0, by omega, rfl, rfl, Lib.hid rfl, by omega, hb4, q4, z4, r4⟩
        case round =>
          clear hb4 q4 z4 r4
          obtain ⟨a, k, ha, rfl, rfl, HK, hk256, hbel, q3, z3, hF⟩ := hrel
          have h5 := h0.below hbel (Nat.le_refl _)
          have hka : k ≤ a := by rw [HK.out]; exact HK0.out a
          by_cases hlt : a < U + 1
          · have hau : (a : Int) < (U : Int) + 1 := by omega
            have CB := Lib.hid (fun w => bits_any a (by omega) w)
            have CC1 := Lib.hid (fun w h r => CC.out al cl vs a w h r hlt)
            by_cases hp : popc a = n
            · rw [show (popc a : Int) = (n : Int) by omega] at CB
              by_cases hv : caV os a = a
              · have hst : k + 1 = ccN os n (a + 1) := by rw [HK.out, ccN, if_pos ⟨hp, hv⟩]
                have HST := Lib.hid hst
                rw [show (caV os a : Int) = (a : Int) by omega] at CC1
                clear hst hp hv HK
                go_wp2_with fail
                refine (CB.out _).mono ?_; rintro e w' ⟨rfl, rfl⟩
                go_wp2_with fail
                refine (CC1.out _ h5 hF).mono ?_; rintro e w6 ⟨rfl, b6⟩
                have q6 := (b6.cell (p := ⟨w.heap.size, 0, none⟩) z3).trans q3
                have z6 := Nat.lt_of_lt_of_le z3 b6.size
                have hb6 := nx hbel b6
                have hF6 := hF.below b6 (Nat.le_refl _)
                go_wp2_with fail
                go_roundw
                case rel => exact ⟨a + 1, k + 1, by omega, by go_num, by go_num, HST, by omega, hb6, q6, z6, hF6⟩
                case measure => simp [intOf]; omega
              · have hst : k = ccN os n (a + 1) := by rw [HK.out, ccN, if_neg (fun h => hv h.2), Nat.add_zero]
                have HST := Lib.hid hst
                obtain ⟨v, hv0⟩ : ∃ v, v = caV os a := ⟨_, rfl⟩
                rw [← hv0] at CC1 hv
                have hbq : ((v : Int) == (a : Int)) = false := by rw [nat_beq]; simpa using hv
                clear hst hp hv HK hv0
                go_wp2_with fail
                refine (CB.out _).mono ?_; rintro e w' ⟨rfl, rfl⟩
                go_wp2_with fail
                refine (CC1.out _ h5 hF).mono ?_; rintro e w6 ⟨rfl, b6⟩
                have q6 := (b6.cell (p := ⟨w.heap.size, 0, none⟩) z3).trans q3
                have z6 := Nat.lt_of_lt_of_le z3 b6.size
                have hb6 := nx hbel b6
                have hF6 := hF.below b6 (Nat.le_refl _)
                go_wp2_with fail
                go_roundw
                case rel => exact ⟨a + 1, k, by omega, by go_num, by go_num, HST, by omega, hb6, q6, z6, hF6⟩
                case measure => simp [intOf]; omega
            · have hst : k = ccN os n (a + 1) := by rw [HK.out, ccN, if_neg (fun h => hp h.1), Nat.add_zero]
              have HST := Lib.hid hst
              obtain ⟨p, hp0⟩ : ∃ p, p = popc a := ⟨_, rfl⟩
              rw [← hp0] at CB hp
              have hbq : ((p : Int) == (n : Int)) = false := by rw [nat_beq]; simpa using hp
              have hbq2 : ((p : Int) != (n : Int)) = true := by simp; omega
              clear hst hp HK hp0 CC1
              go_wp2_with fail
              refine (CB.out _).mono ?_; rintro e w' ⟨rfl, rfl⟩
              go_wp2_with fail
              go_roundw
              case rel => exact ⟨a + 1, k, by omega, by go_num, by go_num, HST, by omega, hbel, q3, z3, hF⟩
              case measure => simp [intOf]; omega
          · obtain rfl : a = U + 1 := by omega
            have e := HK.out
            subst e
            have hau : ¬ ((U + 1 : Nat) : Int) < (U : Int) + 1 := by omega
            clear HK
            go_wp2_with fail
            go_ret
            exact ⟨rfl, hbel⟩
    · have e : ccR os m = -1 := by simp [ccR, ccB, h8]
      rw [e]
      have hn8 : (gn os : Int) > 8 := by omega
      obtain ⟨n, hn⟩ : ∃ n, n = gn os := ⟨_, rfl⟩
      rw [← hn] at CO hn8 g4
      have hwn : IntKind.i64.wrap (n : Int) = n := wrap_in (by omega) (by omega)
      clear hg e hn g2 g3 g5 g6 h8
      go_enter Try.func32, Try.ntmps32
      go_wp2_with fail
      refine (CG.out _ h1).mono ?_; rintro e w1 ⟨rfl, b1⟩
      have q1 := box_cell b1 (by simp)
      have h2 := h1.below b1 (Nat.le_refl _)
      have hb1 := nx hb0 b1
      go_wp2_with fail
      refine (CO.out _ h2).mono ?_; rintro e w2 ⟨rfl, b2⟩
      go_wp2_with fail
      go_ret
      exact ⟨rfl, nx hb1 b2⟩

set_option maxRecDepth 20000 in
set_option maxHeartbeats 1600000 in
theorem ccl_spec (a0 : Option Addr) (c0 : Nat) (os : List Int) (m : Int) (w : World) (h0 : Ints w a0 c0 os) (hl : os.length ≤ 2000000) :
    Calls Try.prog 33 #[.agg #[.slice a0 os.length c0], .int .i64 m] w fun e w' => e = .returned (.int .i64 (ccR os m)) ∧ Below w.heap.size w w' := by
  have hb0 := (Below.refl w.heap.size w).alloc (Nat.le_refl _) (.cells #[.slice a0 os.length c0] 26)
  have h1 := h0.below hb0 (Nat.le_refl _)
  have CG := Lib.hid (fun w h => isGroup_spec a0 c0 os w h hl)
  cases hg : grpB os with
  | false =>
    have e : ccR os m = -1 := by simp [ccR, ccB, hg]
    rw [e]
    rw [hg] at CG
    clear hg e
    go_enter Try.func33, Try.ntmps33
    go_wp2_with fail
    refine (CG.out _ h1).mono ?_; rintro e w1 ⟨rfl, b1⟩
    go_wp2_with fail
    go_ret
    exact ⟨rfl, nx hb0 b1⟩
  | true =>
    rw [hg] at CG
    obtain ⟨g2, g3, g4, g5, g6⟩ := grp_gn hg
    have CO := Lib.hid (fun w h => l2Order_any a0 c0 os w h hg)
    rw [← g5] at CO
    by_cases h8 : gn os ≤ 8
    · cases hin : inB m 0 8 with
      | false =>
        have e : ccR os m = -1 := by simp [ccR, ccB, hin]
        rw [e]
        have HI := Lib.hid hin
        obtain ⟨n, hn⟩ : ∃ n, n = gn os := ⟨_, rfl⟩
        rw [← hn] at CO h8
        have hwn : IntKind.i64.wrap (n : Int) = n := wrap_in (by omega) (by omega)
        have hn8 : ¬ (n : Int) > 8 := by omega
        clear hg e hin hn g2 g3 g4 g5 g6
        go_enter Try.func33, Try.ntmps33
        go_wp2_with fail
        refine (CG.out _ h1).mono ?_; rintro e w1 ⟨rfl, b1⟩
        have q1 := box_cell b1 (by simp)
        have h2 := h1.below b1 (Nat.le_refl _)
        have hb1 := nx hb0 b1
        go_wp2_with fail
        refine (CO.out _ h2).mono ?_; rintro e w2 ⟨rfl, b2⟩
        go_wp2_with fail
        refine (l1In_is m 0 8 false HI.out _).mono ?_; rintro e w' ⟨rfl, rfl⟩
        go_wp2_with fail
        go_ret
        exact ⟨rfl, nx hb1 b2⟩
      | true =>
        obtain ⟨i1, i2⟩ := inB_true.1 hin
        have e : ccR os m = (ccN os m.toNat (2 ^ gn os) : Int) := by simp [ccR, ccB, hg, hin, h8]
        rw [e]
        obtain ⟨n, rfl⟩ := Int.eq_ofNat_of_zero_le i1
        rw [Int.toNat_natCast]
        have HI := Lib.hid hin
        have hM := Nat.pow_le_pow_right (n := 2) (by decide) h8
        have hM2 : (2 : Nat) ^ 8 = 256 := by decide
        have hat : atB os = true := by simp [atB, hg]; omega
        have hLL := atL_len os
        rw [show atL os = autL os by simp [atL, hat]] at hLL
        have CC := Lib.hid (fun (a : Nat) w h => can_spec a0 c0 os (a : Int) w h hl)
        have HCB : Hid (∀ a : Nat, a < 2 ^ gn os → caB os (a : Int) = true ∧ caR os (a : Int) = (caV os a : Int)) := Lib.hid (fun a ha => by
          have h1 : caB os (a : Int) = true := by simp [caB, hat, setB, hg]; rw [g6]; exact_mod_cast ha
          exact ⟨h1, by simp [caR, h1]⟩)
        obtain ⟨N, hN⟩ : ∃ n, n = gn os := ⟨_, rfl⟩
        rw [← hN] at CO h8 HCB hM ⊢
        have hw : IntKind.i64.wrap (2 ^ N) = ((2 ^ N : Nat) : Int) := by rw [pow_wrap62 N (by omega)]; simp
        obtain ⟨M, hMM⟩ : ∃ M, M = 2 ^ N := ⟨_, rfl⟩
        rw [← hMM] at hw HCB hM ⊢
        have HK0 := Lib.hid (ccN_le os n)
        have hM256 : M ≤ 256 := by omega
        have hn8' : n ≤ 8 := by omega
        have hwn : IntKind.i64.wrap (N : Int) = N := wrap_in (by omega) (by omega)
        have hn8 : ¬ (N : Int) > 8 := by omega
        clear hg e hin hN g2 g3 g4 g5 g6 hM hM2 hat hMM i1 i2 hLL
        go_enter Try.func33, Try.ntmps33
        go_wp2_with fail
        refine (CG.out _ h1).mono ?_; rintro e w1 ⟨rfl, b1⟩
        have q1 := box_cell b1 (by simp)
        have z1 : w.heap.size < w1.heap.size := by have := b1.size; simp at this; omega
        have h2 := h1.below b1 (Nat.le_refl _)
        have hb1 := nx hb0 b1
        clear b1 hb0 h1
        go_wp2_with fail
        refine (CO.out _ h2).mono ?_; rintro e w2 ⟨rfl, b2⟩
        have q2 := (b2.cell (p := ⟨w.heap.size, 0, none⟩) z1).trans q1
        have z2 := Nat.lt_of_lt_of_le z1 b2.size
        have hb2 := nx hb1 b2
        clear b2 q1 z1 hb1 h2
        go_wp2_with fail
        refine (l1In_is (n : Int) 0 8 true HI.out _).mono ?_; rintro e w' ⟨rfl, rfl⟩
        go_wp2_with fail
        go_loopw [5, 6] (fun vk vi wr => ∃ (a k : Nat), a ≤ M ∧ vi = .int .i64 (a : Int) ∧ vk = .int .i64 (k : Int) ∧ Hid (k = ccN os n a) ∧ k ≤ 256 ∧ Below w.heap.size w wr ∧ wr.cell? ⟨w.heap.size, 0, none⟩ = some (.slice a0 os.length c0) ∧ w.heap.size < wr.heap.size) (fun _ i _ => M - (intOf i).toNat)
        case atStart => exact ⟨0, 0, by omega, rfl, rfl, Lib.hid rfl, by omega, hb2, q2, z2⟩
        case round =>
          clear hb2 q2 z2
          obtain ⟨a, k, ha, rfl, rfl, HK, hk256, hbel, q3, z3⟩ := hrel
          have h5 := h0.below hbel (Nat.le_refl _)
          have hka : k ≤ a := by rw [HK.out]; exact HK0.out a
          by_cases hlt : a < M
          · have hau : (a : Int) < (M : Int) := by omega
            have CB := Lib.hid (fun w => l3Bits_any a (by omega) w)
            have CC1 := Lib.hid (fun w h => CC.out a w h)
            rw [(HCB.out a hlt).1, (HCB.out a hlt).2] at CC1
            by_cases hp : popc a = n
            · rw [show (popc a : Int) = (n : Int) by omega] at CB
              by_cases hv : caV os a = a
              · have hst : k + 1 = ccN os n (a + 1) := by rw [HK.out, ccN, if_pos ⟨hp, hv⟩]
                have HST := Lib.hid hst
                rw [show (caV os a : Int) = (a : Int) by omega] at CC1
                clear hst hp hv HK
                go_wp2_with fail
                refine (CO.out _ h5).mono ?_; rintro e w7 ⟨rfl, b7⟩
                have q7 := (b7.cell (p := ⟨w.heap.size, 0, none⟩) z3).trans q3
                have z7 := Nat.lt_of_lt_of_le z3 b7.size
                have hb7 := nx hbel b7
                have h7 := h5.below b7 (Nat.le_refl _)
                clear b7 q3 z3 hbel h5
                go_wp2_with fail
                refine (CB.out _).mono ?_; rintro e w' ⟨rfl, rfl⟩
                go_wp2_with fail
                refine (CC1.out _ h7).mono ?_; rintro e w6 ⟨rfl, b6⟩
                have q6 := (b6.cell (p := ⟨w.heap.size, 0, none⟩) z7).trans q7
                have z6 := Nat.lt_of_lt_of_le z7 b6.size
                have hb6 := nx hb7 b6
                go_wp2_with fail
                go_roundw
                case rel => exact ⟨a + 1, k + 1, by omega, by go_num, by go_num, HST, by omega, hb6, q6, z6⟩
                case measure => simp [intOf]; omega
              · have hst : k = ccN os n (a + 1) := by rw [HK.out, ccN, if_neg (fun h => hv h.2), Nat.add_zero]
                have HST := Lib.hid hst
                obtain ⟨v, hv0⟩ : ∃ v, v = caV os a := ⟨_, rfl⟩
                rw [← hv0] at CC1 hv
                have hbq : ((v : Int) == (a : Int)) = false := by rw [nat_beq]; simpa using hv
                clear hst hp hv HK hv0
                go_wp2_with fail
                refine (CO.out _ h5).mono ?_; rintro e w7 ⟨rfl, b7⟩
                have q7 := (b7.cell (p := ⟨w.heap.size, 0, none⟩) z3).trans q3
                have z7 := Nat.lt_of_lt_of_le z3 b7.size
                have hb7 := nx hbel b7
                have h7 := h5.below b7 (Nat.le_refl _)
                clear b7 q3 z3 hbel h5
                go_wp2_with fail
                refine (CB.out _).mono ?_; rintro e w' ⟨rfl, rfl⟩
                go_wp2_with fail
                refine (CC1.out _ h7).mono ?_; rintro e w6 ⟨rfl, b6⟩
                have q6 := (b6.cell (p := ⟨w.heap.size, 0, none⟩) z7).trans q7
                have z6 := Nat.lt_of_lt_of_le z7 b6.size
                have hb6 := nx hb7 b6
                go_wp2_with fail
                go_roundw
                case rel => exact ⟨a + 1, k, by omega, by go_num, by go_num, HST, by omega, hb6, q6, z6⟩
                case measure => simp [intOf]; omega
            · have hst : k = ccN os n (a + 1) := by rw [HK.out, ccN, if_neg (fun h => hp h.1), Nat.add_zero]
              have HST := Lib.hid hst
              obtain ⟨p, hp0⟩ : ∃ p, p = popc a := ⟨_, rfl⟩
              rw [← hp0] at CB hp
              have hbq : ((p : Int) == (n : Int)) = false := by rw [nat_beq]; simpa using hp
              have hbq2 : ((p : Int) != (n : Int)) = true := by simp; omega
              clear hst hp HK hp0 CC1
              go_wp2_with fail
              refine (CO.out _ h5).mono ?_; rintro e w7 ⟨rfl, b7⟩
              have q7 := (b7.cell (p := ⟨w.heap.size, 0, none⟩) z3).trans q3
              have z7 := Nat.lt_of_lt_of_le z3 b7.size
              have hb7 := nx hbel b7
              have h7 := h5.below b7 (Nat.le_refl _)
              clear b7 q3 z3 hbel h5
              go_wp2_with fail
              refine (CB.out _).mono ?_; rintro e w' ⟨rfl, rfl⟩
              go_wp2_with fail
              go_roundw
              case rel => exact ⟨a + 1, k, by omega, by go_num, by go_num, HST, by omega, hb7, q7, z7⟩
              case measure => simp [intOf]; omega
          · obtain rfl : a = M := by omega
            have e := HK.out
            subst e
            clear HK
            go_wp2_with fail
            refine (CO.out _ h5).mono ?_; rintro e w7 ⟨rfl, b7⟩
            go_wp2_with fail
            go_ret
            exact ⟨rfl, nx hbel b7⟩
    · have e : ccR os m = -1 := by simp [ccR, ccB, h8]
      rw [e]
      have hn8 : (gn os : Int) > 8 := by omega
      obtain ⟨n, hn⟩ : ∃ n, n = gn os := ⟨_, rfl⟩
      rw [← hn] at CO hn8 g4
      have hwn : IntKind.i64.wrap (n : Int) = n := wrap_in (by omega) (by omega)
      clear hg e hn g2 g3 g5 g6 h8
      go_enter Try.func33, Try.ntmps33
      go_wp2_with fail
      refine (CG.out _ h1).mono ?_; rintro e w1 ⟨rfl, b1⟩
      have q1 := box_cell b1 (by simp)
      have h2 := h1.below b1 (Nat.le_refl _)
      have hb1 := nx hb0 b1
      go_wp2_with fail
      refine (CO.out _ h2).mono ?_; rintro e w2 ⟨rfl, b2⟩
      go_wp2_with fail
      go_ret
      exact ⟨rfl, nx hb1 b2⟩
end Go.Proofs.Ytokpgbpdmfibjaa
