/-
Contracts of the reference's l22Count and of both sides' CountSidon. Conditions: lengths at most 2000000.
-/
import Derived.Test.YtbidkjhgodkamaaCso
import Derived.Test.YtbidkjhgodkamaaCsf
namespace Go.Proofs.Ytbidkjhgodkamaa
open Go.RowKit Go.ChangeShapes
set_option linter.unusedVariables false

set_option maxRecDepth 20000 in
set_option maxHeartbeats 3200000 in
theorem l22Count_any (N : Nat) (os : List Int) (a0 : Option Addr) (c0 : Nat) (hN : N ≤ 24) (hg0 : grpB os = true) (hNo : gord os = (N : Int))
    (P : Nat → Bool) (CP : Hid (∀ (b : Nat) w, b < 2 ^ N → Ints w a0 c0 os → Calls Try.prog 195 #[.agg #[.slice a0 os.length c0], .int .i64 (b : Int)] w fun e w' => e = .returned (.bool (P b)) ∧ Below w.heap.size w w'))
    : ∀ (f fr left a r : Nat) (w : World), N - fr = f → lsF P N (N - fr) left a = r → fr ≤ N → left ≤ 100 → a < 2 ^ fr → Ints w a0 c0 os →
    Calls Try.prog 207 #[.agg #[.slice a0 os.length c0], .int .i64 (left : Int), .int .i64 (a : Int), .int .i64 (fr : Int)] w fun e w' => e = .returned (.int .i64 (r : Int)) ∧ Below w.heap.size w w' := by
  have CO := Lib.hid (fun w h => l2Order_any a0 c0 os w h hg0)
  rw [hNo] at CO
  clear hg0 hNo
  intro f
  induction f using Nat.strongRecOn with
  | ind f ih =>
  intro fr left a r w hf hr hfn hleft ha h0
  have hb0 := (Below.refl w.heap.size w).alloc (Nat.le_refl _) (.cells #[.slice a0 os.length c0] 26)
  match left, hr, hleft with
  | 0, hr, hleft =>
    rw [lsF_zero] at hr
    subst hr
    clear ih hf ha h0
    go_enter Try.func207, Try.ntmps207
    go_wp2_with fail
    go_ret
    exact ⟨rfl, hb0⟩
  | left + 1, hr, hleft =>
    have IH := Lib.hid ih
    have HF := Lib.hid hf
    have HR := Lib.hid hr
    have HA := Lib.hid ha
    have h24 : (2 : Nat) ^ N ≤ 16777216 := by
      have := Nat.pow_le_pow_right (n := 2) (by decide) hN
      simpa using this
    have h24f : (2 : Nat) ^ (N - fr) ≤ 16777216 := by
      have := Nat.pow_le_pow_right (n := 2) (by decide) (show N - fr ≤ 24 by omega)
      simpa using this
    have haN : a < 2 ^ N := Nat.lt_of_lt_of_le ha (Nat.pow_le_pow_right (by decide) hfn)
    have ha24 : a < 16777216 := by omega
    have H24 := Lib.hid h24
    have HST : Hid (0 + 2 ^ (N - fr) ≤ 33554433) := Lib.hid (by omega)
    have hl0 : (((left + 1 : Nat) : Int) == 0) = false := by simp; omega
    have hl1 : ((left + 1 : Nat) : Int) - 1 = (left : Int) := by omega
    obtain ⟨L, hL⟩ : ∃ L, L = left + 1 := ⟨_, rfl⟩
    rw [← hL] at hl0 hl1 ⊢
    have hLb : 1 ≤ L ∧ L ≤ 100 := by omega
    clear ih hf hr ha haN h24 h24f hL
    go_enter Try.func207, Try.ntmps207
    go_wp2_with fail
    go_loopw [9, 10] (fun vb x wr => ∃ (d b : Nat), d + fr ≤ N ∧ x = .int .i64 ((N - d : Nat) : Int) ∧ vb = .int .i64 (b : Int) ∧ Hid (b + 2 ^ d ≤ 33554433) ∧ Hid (b + lsF P N d (left + 1) a = r) ∧ Below w.heap.size w wr ∧ wr.cell? ⟨w.heap.size, 0, none⟩ = some (.slice a0 os.length c0) ∧ w.heap.size < wr.heap.size) (fun _ x _ => (N - intOf x).toNat)
    case atStart => exact ⟨N - fr, 0, by omega, by rw [show N - (N - fr) = fr by omega], rfl, HST, Lib.hid (by rw [Nat.zero_add]; exact HR.out), hb0, by simp [go_sem], by simp⟩
    case round =>
      obtain ⟨d, b, hd, rfl, rfl, HBL, HG, hbel, hbox, z0⟩ := hrel
      have h1 := h0.below hbel (Nat.le_refl _)
      match d, hd, HG, HBL with
      | 0, hd, HG, HBL =>
        have e : b = r := by have := HG.out; simp [lsF] at this; exact this
        subst e
        rw [Nat.sub_zero]
        have hbb : b ≤ 33554433 := by have := HBL.out; omega
        clear HG HR HBL
        go_wp2_with fail
        refine (CO.out _ h1).mono ?_; rintro e w1 ⟨rfl, b1⟩
        go_wp2_with fail
        go_ret
        exact ⟨rfl, nx hbel b1⟩
      | d + 1, hd, HG, HBL =>
        obtain ⟨x, hx⟩ : ∃ x, x = N - (d + 1) := ⟨_, rfl⟩
        have hxn : x + d + 1 ≤ N ∧ N ≤ x + d + 1 := by omega
        have hfx : fr ≤ x := by omega
        have hax : a < 2 ^ x := Nat.lt_of_lt_of_le HA.out (Nat.pow_le_pow_right (by decide) hfx)
        have hcx := or_bit_lt hax
        have hcN : a ||| 2 ^ x < 2 ^ N := Nat.lt_of_lt_of_le hcx (Nat.pow_le_pow_right (by decide) (by omega))
        have h24x : (2 : Nat) ^ x ≤ 16777216 := by
          have := Nat.pow_le_pow_right (n := 2) (by decide) (show x ≤ 24 by omega)
          simpa using this
        have hgo : b + ((if P (a ||| 2 ^ x) = true then lsF P N d left (a ||| 2 ^ x) else 0) + lsF P N d (left + 1) a) = r := by rw [hx]; exact HG.out
        have g2 := lsF_le P N d left (a ||| 2 ^ x)
        obtain ⟨p, hpp⟩ : ∃ p, p = 2 ^ d := ⟨_, rfl⟩
        have hp2 : b + 2 * p ≤ 33554433 := by rw [hpp]; have := HBL.out; rw [Nat.pow_succ] at this; omega
        rw [← hpp] at g2
        have HPP := Lib.hid hpp
        rw [← hx]
        have hlt : (x : Int) < N := by omega
        have hw : IntKind.i64.wrap (2 ^ x) = ((2 ^ x : Nat) : Int) := by rw [pow_wrap62 x (by omega)]; simp
        have hor : bits .or .i64 (a : Int) ((2 ^ x : Nat) : Int) = ((a ||| 2 ^ x : Nat) : Int) := or_nat _ _ (by omega) (by omega)
        obtain ⟨T, hT⟩ : ∃ T, T = 2 ^ x := ⟨_, rfl⟩
        have hcx' : a ||| 2 ^ x < 2 ^ (x + 1) := hcx
        rw [← hT] at hgo hcN hw hor hcx' h24x g2
        obtain ⟨c, hc⟩ : ∃ c, c = a ||| T := ⟨_, rfl⟩
        rw [← hc] at hgo hcN hor hcx' g2
        have hc24 : c < 16777216 := by have := H24.out; omega
        have HCN := Lib.hid hcN
        have HCX := Lib.hid hcx'
        have hxN : x + 1 ≤ N := by omega
        clear hx HG HBL hax hcx hcN hcx' hT hc hpp
        go_wp2_with fail
        refine (CO.out _ h1).mono ?_; rintro e w1 ⟨rfl, b1⟩
        have h2 := h1.below b1 (Nat.le_refl _)
        have hbox1 := (b1.cell (p := ⟨w.heap.size, 0, none⟩) z0).trans hbox
        have z1 := Nat.lt_of_lt_of_le z0 b1.size
        have hbel1 := nx hbel b1
        have CP1 := Lib.hid (CP.out c w1 HCN.out h2)
        clear b1 hbox z0 hbel h1
        cases hP : P c with
        | false =>
          rw [hP] at hgo CP1
          have HGO : Hid (b + lsF P N d (left + 1) a = r) := Lib.hid (by rw [if_neg (by decide), Nat.zero_add] at hgo; exact hgo)
          clear hgo hP g2
          go_wp2_with fail
          refine CP1.out.mono ?_; rintro e w2 ⟨rfl, b2⟩
          have hbox2 := (b2.cell (p := ⟨w.heap.size, 0, none⟩) z1).trans hbox1
          have z2 := Nat.lt_of_lt_of_le z1 b2.size
          have hbel2 := nx hbel1 b2
          clear b2 hbox1 z1 hbel1 CP1 h2
          go_wp2_with fail
          go_roundw
          case rel => exact ⟨d, b, by omega, by rw [show N - d = x + 1 by omega]; go_num, rfl, Lib.hid (by rw [← HPP.out]; omega), HGO, hbel2, hbox2, z2⟩
          case measure => simp [intOf]; omega
        | true =>
          rw [hP, if_pos rfl] at hgo
          rw [hP] at CP1
          obtain ⟨y, hy⟩ : ∃ y, y = lsF P N d left c := ⟨_, rfl⟩
          rw [← hy] at hgo g2
          have HGO : Hid (b + y + lsF P N d (left + 1) a = r) := Lib.hid (by rw [Nat.add_assoc]; exact hgo)
          have HY := Lib.hid hy
          clear hgo hP hy
          go_wp2_with fail
          refine CP1.out.mono ?_; rintro e w2 ⟨rfl, b2⟩
          have h3 := h2.below b2 (Nat.le_refl _)
          have hbox2 := (b2.cell (p := ⟨w.heap.size, 0, none⟩) z1).trans hbox1
          have z2 := Nat.lt_of_lt_of_le z1 b2.size
          have hbel2 := nx hbel1 b2
          have CI := Lib.hid (IH.out d (by have := HF.out; omega) (x + 1) left c y w2 (by omega) (by rw [show N - (x + 1) = d by omega]; exact HY.out.symm) (by omega) (by omega) HCX.out h3)
          rw [show ((x + 1 : Nat) : Int) = (x : Int) + 1 by omega] at CI
          clear b2 hbox1 z1 hbel1 CP1 h2 h3
          go_wp2_with fail
          refine CI.out.mono ?_; rintro e w3 ⟨rfl, b3⟩
          have hbox3 := (b3.cell (p := ⟨w.heap.size, 0, none⟩) z2).trans hbox2
          have z3 := Nat.lt_of_lt_of_le z2 b3.size
          have hbel3 := nx hbel2 b3
          clear b3 hbox2 z2 hbel2 CI
          go_wp2_with fail
          go_roundw
          case rel => exact ⟨d, b + y, by omega, by rw [show N - d = x + 1 by omega]; go_num, by go_num, Lib.hid (by rw [← HPP.out]; omega), HGO, hbel3, hbox3, z3⟩
          case measure => simp [intOf]; omega

def csB (os : List Int) (n : Int) : Bool := grpB os && (decide (gn os ≤ 13) && inB n 0 4)
noncomputable def csV (os : List Int) (n : Int) : Int := if csB os n = true then (lsF (sdB os) (gn os) (gn os) n.toNat 0 : Int) else -1
theorem sdB_zero (os : List Int) : sdB os 0 = true := by
  rw [sdB_true, sidE_iff (by decide)]
  intro p q r s hp
  simp at hp
theorem cs_eq {os : List Int} (hg : grpB os = true) (n : Nat) : cS (sdB os) n (2 ^ gn os) = lsF (sdB os) (gn os) (gn os) n 0 := by
  obtain ⟨g2, g3, g4, g5, g6⟩ := grp_gn hg
  exact cS_eq g4 (fun a b ha hb h hs => sdB_part (by omega) (by omega) h hs) (sdB_zero os) n
theorem cS_le (P : Nat → Bool) (n : Nat) : ∀ M, cS P n M ≤ M
  | 0 => Nat.le_refl _
  | M + 1 => by
    have := cS_le P n M
    show cS P n M + nat1 _ ≤ M + 1
    unfold nat1
    split <;> omega

set_option maxRecDepth 20000 in
set_option maxHeartbeats 3200000 in
theorem csi_impl (a0 : Option Addr) (c0 : Nat) (os : List Int) (n : Int) (w : World) (h0 : Ints w a0 c0 os) (hl : os.length ≤ 2000000) :
    Calls Try.prog 49 #[.agg #[.slice a0 os.length c0], .int .i64 n] w fun e w' => e = .returned (.int .i64 (csV os n)) ∧ Below w.heap.size w w' := by
  have hb0 := (Below.refl w.heap.size w).alloc (Nat.le_refl _) (.cells #[.slice a0 os.length c0] 26)
  have h1 := h0.below hb0 (Nat.le_refl _)
  have C := Lib.hid (fun w h => isGroup_impl a0 c0 os w h hl)
  cases hg0 : grpB os with
  | false =>
    have e : csV os n = -1 := by simp [csV, csB, hg0]
    rw [e]
    rw [hg0] at C
    clear hg0 e
    go_enter Try.func49, Try.ntmps49
    go_wp2_with fail
    refine (C.out _ h1).mono ?_; rintro e w1 ⟨rfl, b1⟩
    go_wp2_with fail
    go_ret
    exact ⟨rfl, nx hb0 b1⟩
  | true =>
    obtain ⟨g2, g3, g4, g5, g6⟩ := grp_gn hg0
    rw [hg0] at C
    have C2 := Lib.hid (fun w h => orderOf_impl a0 c0 os w h hl)
    rw [show ordV os = gord os by simp [ordV, hg0], ← g5] at C2
    by_cases hm : gn os ≤ 13
    · cases hin : inB n 0 4 with
      | false =>
        have e : csV os n = -1 := by simp [csV, csB, hin]
        rw [e]
        obtain ⟨N, hN⟩ : ∃ N, N = gn os := ⟨_, rfl⟩
        rw [← hN] at C2 hm g3
        have HI := Lib.hid hin
        clear e g2 g4 g5 g6 hN hg0 hin
        go_enter Try.func49, Try.ntmps49
        go_wp2_with fail
        refine (C.out _ h1).mono ?_; rintro e w1 ⟨rfl, b1⟩
        have q1 := box_cell b1 (by simp)
        have h2 := h1.below b1 (Nat.le_refl _)
        have hb1 := nx hb0 b1
        go_wp2_with fail
        refine (C2.out _ h2).mono ?_; rintro e w2 ⟨rfl, b2⟩
        go_wp2_with fail
        refine (within_is n 0 4 false HI.out _).mono ?_; rintro e w' ⟨rfl, rfl⟩
        go_wp2_with fail
        go_ret
        exact ⟨rfl, nx hb1 b2⟩
      | true =>
        have e : csV os n = (lsF (sdB os) (gn os) (gn os) n.toNat 0 : Int) := by simp [csV, csB, hg0, hm, hin]
        rw [e]
        obtain ⟨n1, n2⟩ := inB_true.1 hin
        obtain ⟨n, rfl⟩ := Int.eq_ofNat_of_zero_le n1
        rw [show ((n : Int)).toNat = n by simp]
        have HI := Lib.hid hin
        rw [← cs_eq hg0 n, ← g6]
        have CF := Lib.hid (fun w h => fullSet_any a0 c0 os w h hl hg0)
        have CB := Lib.hid bits_any
        have CS := Lib.hid (fun a w h ha => isSidon_set a0 c0 os a w h hl hg0 ha)
        have hT := setT_bd hg0
        have hT13 : setT os ≤ 8192 := by
          rw [g6]
          have := Nat.pow_le_pow_right (n := 2) (by decide) hm
          simpa using this
        obtain ⟨T, hTT⟩ : ∃ T, T = setT os := ⟨_, rfl⟩
        rw [← hTT] at CF CS hT hT13 ⊢
        obtain ⟨P, hP⟩ : ∃ P, P = sdB os := ⟨_, rfl⟩
        rw [← hP] at CS ⊢
        obtain ⟨N, hN⟩ : ∃ N, N = gn os := ⟨_, rfl⟩
        rw [← hN] at C2 hm g3
        have ht1 : ((T - 1 : Nat) : Int) + 1 = (T : Int) := by omega
        have ht2 : IntKind.i64.wrap (((T - 1 : Nat) : Int) + 1) = (T : Int) := by rw [ht1, wrap_in (by omega) (by omega)]
        have HLE := Lib.hid (cS_le P n)
        clear e g2 g4 g5 g6 hN hg0 hin hTT hP
        go_enter Try.func49, Try.ntmps49
        go_wp2_with fail
        refine (C.out _ h1).mono ?_; rintro e w1 ⟨rfl, b1⟩
        have q1 := box_cell b1 (by simp)
        have z1 : w.heap.size < w1.heap.size := by have := b1.size; simp at this; omega
        have h2 := h1.below b1 (Nat.le_refl _)
        have hb1 := nx hb0 b1
        go_wp2_with fail
        refine (C2.out _ h2).mono ?_; rintro e w2 ⟨rfl, b2⟩
        have q2 := (b2.cell (p := ⟨w.heap.size, 0, none⟩) z1).trans q1
        have z2 := Nat.lt_of_lt_of_le z1 b2.size
        have h3 := h2.below b2 (Nat.le_refl _)
        have hb2 := nx hb1 b2
        clear b1 b2 q1 z1 h1 h2 hb0 hb1 C C2
        go_wp2_with fail
        refine (within_is (n : Int) 0 4 true HI.out _).mono ?_; rintro e w' ⟨rfl, rfl⟩
        go_wp2_with fail
        refine (CF.out _ h3).mono ?_; rintro e w3 ⟨rfl, b3⟩
        have q3 := (b3.cell (p := ⟨w.heap.size, 0, none⟩) z2).trans q2
        have z3 := Nat.lt_of_lt_of_le z2 b3.size
        have hb3 := nx hb2 b3
        clear b3 q2 z2 h3 hb2 CF
        go_wp2_with fail
        go_loopw [5, 23] (fun vk va wr => ∃ (a : Nat), a ≤ T ∧ va = .int .i64 (a : Int) ∧ vk = .int .i64 ((cS P n a : Nat) : Int) ∧ Below w.heap.size w wr ∧ wr.cell? ⟨w.heap.size, 0, none⟩ = some (.slice a0 os.length c0) ∧ w.heap.size < wr.heap.size) (fun _ x _ => (T - intOf x).toNat)
        case atStart => exact ⟨0, by omega, rfl, by simp [cS, ns], hb3, q3, z3⟩
        case round =>
          clear hb3 q3 z3
          obtain ⟨a, ha, rfl, rfl, hbel, q3, z3⟩ := hrel
          have h3 := h0.below hbel (Nat.le_refl _)
          have hle := HLE.out a
          by_cases hlt : a < T
          · have hst : cS P n (a + 1) = cS P n a + nat1 (decide (popc a = n) && P a) := rfl
            have CA := Lib.hid (CB.out a (by omega))
            have CY := Lib.hid (CS.out a wr h3 hlt)
            obtain ⟨s, hs⟩ : ∃ s, s = cS P n a := ⟨_, rfl⟩
            rw [← hs] at hst hle ⊢
            have hlt2 : (a : Int) < (T : Int) := by omega
            by_cases hpn : popc a = n
            · have hbq : ((popc a : Int) == (n : Int)) = true := by rw [hpn]; simp
              obtain ⟨p, hp⟩ : ∃ p, p = popc a := ⟨_, rfl⟩
              rw [← hp] at CA hbq
              rw [decide_eq_true hpn, Bool.true_and] at hst
              clear hpn hp hs
              cases hPa : P a with
              | true =>
                rw [hPa] at hst CY
                have hst2 : cS P n (a + 1) = s + 1 := hst
                have HST := Lib.hid hst2
                clear hst hst2 hPa
                go_wp2_with fail
                refine (CA.out _).mono ?_; rintro e w' ⟨rfl, rfl⟩
                go_wp2_with fail
                refine CY.out.mono ?_; rintro e w4 ⟨rfl, b4⟩
                go_wp2_with fail
                go_roundw
                case rel => exact ⟨a + 1, by omega, by go_num, by rw [HST.out]; go_num, nx hbel b4, (b4.cell (p := ⟨w.heap.size, 0, none⟩) z3).trans q3, Nat.lt_of_lt_of_le z3 b4.size⟩
                case measure => simp [intOf]; omega
              | false =>
                rw [hPa] at hst CY
                have hst2 : cS P n (a + 1) = s := hst
                have HST := Lib.hid hst2
                clear hst hst2 hPa
                go_wp2_with fail
                refine (CA.out _).mono ?_; rintro e w' ⟨rfl, rfl⟩
                go_wp2_with fail
                refine CY.out.mono ?_; rintro e w4 ⟨rfl, b4⟩
                go_wp2_with fail
                go_roundw
                case rel => exact ⟨a + 1, by omega, by go_num, by rw [HST.out], nx hbel b4, (b4.cell (p := ⟨w.heap.size, 0, none⟩) z3).trans q3, Nat.lt_of_lt_of_le z3 b4.size⟩
                case measure => simp [intOf]; omega
            · have hbq : ((popc a : Int) == (n : Int)) = false := by simp; omega
              obtain ⟨p, hp⟩ : ∃ p, p = popc a := ⟨_, rfl⟩
              rw [← hp] at CA hbq
              rw [decide_eq_false hpn, Bool.false_and] at hst
              have hst2 : cS P n (a + 1) = s := hst
              have HST := Lib.hid hst2
              clear hpn hp hs hst hst2 CY
              go_wp2_with fail
              refine (CA.out _).mono ?_; rintro e w' ⟨rfl, rfl⟩
              go_wp2_with fail
              go_roundw
              case rel => exact ⟨a + 1, by omega, by go_num, by rw [HST.out], hbel, q3, z3⟩
              case measure => simp [intOf]; omega
          · obtain rfl : a = T := by omega
            go_wp2_with fail
            go_ret
            exact ⟨rfl, hbel⟩
    · have e : csV os n = -1 := by simp [csV, csB, hm]
      rw [e]
      obtain ⟨N, hN⟩ : ∃ N, N = gn os := ⟨_, rfl⟩
      rw [← hN] at C2 hm g4
      clear e g2 g3 g5 g6 hN hg0
      go_enter Try.func49, Try.ntmps49
      go_wp2_with fail
      refine (C.out _ h1).mono ?_; rintro e w1 ⟨rfl, b1⟩
      have q1 := box_cell b1 (by simp)
      have h2 := h1.below b1 (Nat.le_refl _)
      have hb1 := nx hb0 b1
      go_wp2_with fail
      refine (C2.out _ h2).mono ?_; rintro e w2 ⟨rfl, b2⟩
      go_wp2_with fail
      go_ret
      exact ⟨rfl, nx hb1 b2⟩

set_option maxRecDepth 20000 in
set_option maxHeartbeats 3200000 in
theorem csi_spec (a0 : Option Addr) (c0 : Nat) (os : List Int) (n : Int) (w : World) (h0 : Ints w a0 c0 os) (hl : os.length ≤ 2000000) :
    Calls Try.prog 50 #[.agg #[.slice a0 os.length c0], .int .i64 n] w fun e w' => e = .returned (.int .i64 (csV os n)) ∧ Below w.heap.size w w' := by
  have hb0 := (Below.refl w.heap.size w).alloc (Nat.le_refl _) (.cells #[.slice a0 os.length c0] 26)
  have h1 := h0.below hb0 (Nat.le_refl _)
  have C := Lib.hid (fun w h => isGroup_spec a0 c0 os w h hl)
  cases hg0 : grpB os with
  | false =>
    have e : csV os n = -1 := by simp [csV, csB, hg0]
    rw [e]
    rw [hg0] at C
    clear hg0 e
    go_enter Try.func50, Try.ntmps50
    go_wp2_with fail
    refine (C.out _ h1).mono ?_; rintro e w1 ⟨rfl, b1⟩
    go_wp2_with fail
    go_ret
    exact ⟨rfl, nx hb0 b1⟩
  | true =>
    obtain ⟨g2, g3, g4, g5, g6⟩ := grp_gn hg0
    rw [hg0] at C
    have C2 := Lib.hid (fun w h => l2Order_any a0 c0 os w h hg0)
    rw [← g5] at C2
    by_cases hm : gn os ≤ 13
    · cases hin : inB n 0 4 with
      | false =>
        have e : csV os n = -1 := by simp [csV, csB, hin]
        rw [e]
        obtain ⟨N, hN⟩ : ∃ N, N = gn os := ⟨_, rfl⟩
        rw [← hN] at C2 hm g3
        have HI := Lib.hid hin
        clear e g2 g4 g5 g6 hN hg0 hin
        go_enter Try.func50, Try.ntmps50
        go_wp2_with fail
        refine (C.out _ h1).mono ?_; rintro e w1 ⟨rfl, b1⟩
        have q1 := box_cell b1 (by simp)
        have h2 := h1.below b1 (Nat.le_refl _)
        have hb1 := nx hb0 b1
        go_wp2_with fail
        refine (C2.out _ h2).mono ?_; rintro e w2 ⟨rfl, b2⟩
        go_wp2_with fail
        refine (l1In_is n 0 4 false HI.out _).mono ?_; rintro e w' ⟨rfl, rfl⟩
        go_wp2_with fail
        go_ret
        exact ⟨rfl, nx hb1 b2⟩
      | true =>
        have e : csV os n = (lsF (sdB os) (gn os) (gn os) n.toNat 0 : Int) := by simp [csV, csB, hg0, hm, hin]
        rw [e]
        obtain ⟨n1, n2⟩ := inB_true.1 hin
        obtain ⟨n, rfl⟩ := Int.eq_ofNat_of_zero_le n1
        rw [show ((n : Int)).toNat = n by simp]
        have HI := Lib.hid hin
        have CR := Lib.hid (fun w h => l22Count_any (gn os) os a0 c0 g4 hg0 g5.symm (sdB os) (Lib.hid (fun b w hb h => l22Sidon_set a0 c0 os b w h hg0 (lt24_of2 g4 hb))) (gn os) 0 n 0 _ w rfl rfl (by omega) (by omega) (by decide) h)
        rw [Nat.sub_zero] at CR
        obtain ⟨v, hv⟩ : ∃ v, v = lsF (sdB os) (gn os) (gn os) n 0 := ⟨_, rfl⟩
        rw [← hv] at CR ⊢
        obtain ⟨N, hN⟩ : ∃ N, N = gn os := ⟨_, rfl⟩
        rw [← hN] at C2 hm g3
        clear e hv g2 g4 g5 g6 hN hg0 hin
        go_enter Try.func50, Try.ntmps50
        go_wp2_with fail
        refine (C.out _ h1).mono ?_; rintro e w1 ⟨rfl, b1⟩
        have q1 := box_cell b1 (by simp)
        have z1 : w.heap.size < w1.heap.size := by have := b1.size; simp at this; omega
        have h2 := h1.below b1 (Nat.le_refl _)
        have hb1 := nx hb0 b1
        go_wp2_with fail
        refine (C2.out _ h2).mono ?_; rintro e w2 ⟨rfl, b2⟩
        have q2 := (b2.cell (p := ⟨w.heap.size, 0, none⟩) z1).trans q1
        have z2 := Nat.lt_of_lt_of_le z1 b2.size
        have h3 := h2.below b2 (Nat.le_refl _)
        have hb2 := nx hb1 b2
        clear b1 b2 q1 z1 h1 h2 hb0 hb1 C C2
        go_wp2_with fail
        refine (l1In_is (n : Int) 0 4 true HI.out _).mono ?_; rintro e w' ⟨rfl, rfl⟩
        go_wp2_with fail
        refine (CR.out _ h3).mono ?_; rintro e w3 ⟨rfl, b3⟩
        go_wp2_with fail
        go_ret
        exact ⟨rfl, nx hb2 b3⟩
    · have e : csV os n = -1 := by simp [csV, csB, hm]
      rw [e]
      obtain ⟨N, hN⟩ : ∃ N, N = gn os := ⟨_, rfl⟩
      rw [← hN] at C2 hm g4
      clear e g2 g3 g5 g6 hN hg0
      go_enter Try.func50, Try.ntmps50
      go_wp2_with fail
      refine (C.out _ h1).mono ?_; rintro e w1 ⟨rfl, b1⟩
      have q1 := box_cell b1 (by simp)
      have h2 := h1.below b1 (Nat.le_refl _)
      have hb1 := nx hb0 b1
      go_wp2_with fail
      refine (C2.out _ h2).mono ?_; rintro e w2 ⟨rfl, b2⟩
      go_wp2_with fail
      go_ret
      exact ⟨rfl, nx hb1 b2⟩
end Go.Proofs.Ytbidkjhgodkamaa
