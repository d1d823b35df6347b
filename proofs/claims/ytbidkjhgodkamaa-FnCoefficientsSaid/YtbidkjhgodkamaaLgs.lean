/-
The reference's searches for a largest set: l21Largest, l22Largest, l23Largest, for the property that a contract tells. Conditions: groups.
-/
import Derived.Test.YtbidkjhgodkamaaSrch
import Derived.Test.YtbidkjhgodkamaaSum
namespace Go.Proofs.Ytbidkjhgodkamaa
open Go.RowKit Go.ChangeShapes
set_option linter.unusedVariables false

set_option maxRecDepth 20000 in
set_option maxHeartbeats 3200000 in
theorem l21Largest_any (P : Nat → Bool) (N : Nat) (os : List Int) (a0 : Option Addr) (c0 : Nat) (hN : N ≤ 24) (hg0 : grpB os = true) (hNo : gord os = (N : Int))
    (CP : Hid (∀ (b : Nat) w, b < 2 ^ N → Ints w a0 c0 os → Calls Try.prog 192 #[.agg #[.slice a0 os.length c0], .int .i64 (b : Int)] w fun e w' => e = .returned (.bool (P b)) ∧ Below w.heap.size w w'))
    : ∀ (f fr a r : Nat) (w : World), N - fr = f → lgGo P N (N - fr) a a = r → fr ≤ N → a < 2 ^ fr → Ints w a0 c0 os →
    Calls Try.prog 175 #[.agg #[.slice a0 os.length c0], .int .i64 (a : Int), .int .i64 (fr : Int)] w fun e w' => e = .returned (.int .i64 (r : Int)) ∧ Below w.heap.size w w' := by
  have CO := Lib.hid (fun w h => l2Order_any a0 c0 os w h hg0)
  rw [hNo] at CO
  have CB := Lib.hid l3Bits_any
  clear hg0 hNo
  intro f
  induction f using Nat.strongRecOn with
  | ind f ih =>
  intro fr a r w hf hr hfn ha h0
  have IH := Lib.hid ih
  have HF := Lib.hid hf
  have HR := Lib.hid hr
  have HA := Lib.hid ha
  have h24 : (2 : Nat) ^ N ≤ 16777216 := by
    have := Nat.pow_le_pow_right (n := 2) (by decide) hN
    simpa using this
  have haN : a < 2 ^ N := Nat.lt_of_lt_of_le ha (Nat.pow_le_pow_right (by decide) hfn)
  have ha24 : a < 16777216 := by omega
  have HAN := Lib.hid haN
  have H24 := Lib.hid h24
  have hb0 := (Below.refl w.heap.size w).alloc (Nat.le_refl _) (.cells #[.slice a0 os.length c0] 26)
  clear ih hf hr ha haN h24
  go_enter Try.func175, Try.ntmps175
  go_wp2_with fail
  go_loopw [7, 8] (fun vb x wr => ∃ (d b : Nat), d + fr ≤ N ∧ x = .int .i64 ((N - d : Nat) : Int) ∧ vb = .int .i64 (b : Int) ∧ b < 16777216 ∧ Hid (b < 2 ^ N) ∧ Hid (lgGo P N d a b = r) ∧ Below w.heap.size w wr ∧ wr.cell? ⟨w.heap.size, 0, none⟩ = some (.slice a0 os.length c0) ∧ w.heap.size < wr.heap.size) (fun _ x _ => (N - intOf x).toNat)
  case atStart => exact ⟨N - fr, a, by omega, by rw [show N - (N - fr) = fr by omega], rfl, ha24, HAN, HR, hb0, by simp [go_sem], by simp⟩
  case round =>
    obtain ⟨d, b, hd, rfl, rfl, hbl, HBL, HG, hbel, hbox, z0⟩ := hrel
    have h1 := h0.below hbel (Nat.le_refl _)
    match d, hd, HG with
    | 0, hd, HG =>
      have e : b = r := HG.out
      subst e
      rw [Nat.sub_zero]
      clear HG HR
      go_wp2_with fail
      refine (CO.out _ h1).mono ?_; rintro e w1 ⟨rfl, b1⟩
      go_wp2_with fail
      go_ret
      exact ⟨rfl, nx hbel b1⟩
    | d + 1, hd, HG =>
      obtain ⟨x, hx⟩ : ∃ x, x = N - (d + 1) := ⟨_, rfl⟩
      have hxn : x + d + 1 ≤ N ∧ N ≤ x + d + 1 := by omega
      have hfx : fr ≤ x := by omega
      have hax : a < 2 ^ x := Nat.lt_of_lt_of_le HA.out (Nat.pow_le_pow_right (by decide) hfx)
      have hcx := or_bit_lt hax
      have hcN : a ||| 2 ^ x < 2 ^ N := Nat.lt_of_lt_of_le hcx (Nat.pow_le_pow_right (by decide) (by omega))
      have h24x : (2 : Nat) ^ x ≤ 16777216 := by
        have := Nat.pow_le_pow_right (n := 2) (by decide) (show x ≤ 24 by omega)
        simpa using this
      have hgo : lgGo P N d a (if P (a ||| 2 ^ x) = true then better b (lgGo P N d (a ||| 2 ^ x) (a ||| 2 ^ x)) else b) = r := by rw [hx]; exact HG.out
      have hlg := lgGo_lt P N d (a ||| 2 ^ x) (a ||| 2 ^ x) (by omega) (by rw [show N - d = x + 1 by omega]; exact hcx) hcN
      rw [← hx]
      have hlt : (x : Int) < N := by omega
      have hw : IntKind.i64.wrap (2 ^ x) = ((2 ^ x : Nat) : Int) := by rw [pow_wrap62 x (by omega)]; simp
      have hor : bits .or .i64 (a : Int) ((2 ^ x : Nat) : Int) = ((a ||| 2 ^ x : Nat) : Int) := or_nat _ _ (by omega) (by omega)
      obtain ⟨T, hT⟩ : ∃ T, T = 2 ^ x := ⟨_, rfl⟩
      have hcx' : a ||| 2 ^ x < 2 ^ (x + 1) := hcx
      rw [← hT] at hgo hcN hw hor hcx' h24x hlg
      obtain ⟨c, hc⟩ : ∃ c, c = a ||| T := ⟨_, rfl⟩
      rw [← hc] at hgo hcN hor hcx' hlg
      have hc24 : c < 16777216 := by have := H24.out; omega
      have HCN := Lib.hid hcN
      have HCX := Lib.hid hcx'
      have HLG := Lib.hid hlg
      have hxN : x + 1 ≤ N := by omega
      clear hx HG hax hcx hcN hcx' hT hc hlg
      go_wp2_with fail
      refine (CO.out _ h1).mono ?_; rintro e w1 ⟨rfl, b1⟩
      have h2 := h1.below b1 (Nat.le_refl _)
      have hbox1 := (b1.cell (p := ⟨w.heap.size, 0, none⟩) z0).trans hbox
      have z1 := Nat.lt_of_lt_of_le z0 b1.size
      have hbel1 := nx hbel b1
      have CP1 := Lib.hid (CP.out c w1 HCN.out h2)
      clear b1 hbox z0 hbel h1
      cases hP : P c with
      | false =>
        rw [hP] at hgo CP1
        have HGO : Hid (lgGo P N d a b = r) := Lib.hid hgo
        clear hgo hP
        go_wp2_with fail
        refine CP1.out.mono ?_; rintro e w2 ⟨rfl, b2⟩
        have hbox2 := (b2.cell (p := ⟨w.heap.size, 0, none⟩) z1).trans hbox1
        have z2 := Nat.lt_of_lt_of_le z1 b2.size
        have hbel2 := nx hbel1 b2
        clear b2 hbox1 z1 hbel1 CP1 h2
        
        go_wp2_with fail
        go_roundw
        case rel => exact ⟨d, b, by omega, by rw [show N - d = x + 1 by omega]; go_num, rfl, hbl, HBL, HGO, hbel2, hbox2, z2⟩
        case measure => simp [intOf]; omega
      | true =>
        rw [hP] at hgo CP1
        have hgo' : lgGo P N d a (better b (lgGo P N d c c)) = r := hgo
        obtain ⟨y, hy⟩ : ∃ y, y = lgGo P N d c c := ⟨_, rfl⟩
        rw [← hy] at hgo' HLG
        have hyl : y < 16777216 := by have := HLG.out; have := H24.out; omega
        have HGO := Lib.hid hgo'
        have HY := Lib.hid hy
        clear hgo hgo' hP hy
        go_wp2_with fail
        refine CP1.out.mono ?_; rintro e w2 ⟨rfl, b2⟩
        have h3 := h2.below b2 (Nat.le_refl _)
        have hbox2 := (b2.cell (p := ⟨w.heap.size, 0, none⟩) z1).trans hbox1
        have z2 := Nat.lt_of_lt_of_le z1 b2.size
        have hbel2 := nx hbel1 b2
        have CI := Lib.hid (IH.out d (by have := HF.out; omega) (x + 1) c y w2 (by omega) (by rw [show N - (x + 1) = d by omega]; exact HY.out.symm) (by omega) HCX.out h3)
        rw [show ((x + 1 : Nat) : Int) = (x : Int) + 1 by omega] at CI
        clear b2 hbox1 z1 hbel1 CP1 h2 h3
        
        go_wp2_with fail
        refine CI.out.mono ?_; rintro e w3 ⟨rfl, b3⟩
        have hbox3 := (b3.cell (p := ⟨w.heap.size, 0, none⟩) z2).trans hbox2
        have z3 := Nat.lt_of_lt_of_le z2 b3.size
        have hbel3 := nx hbel2 b3
        have CY := Lib.hid (CB.out y (by omega))
        have CZ := Lib.hid (CB.out b (by omega))
        have hpq : (popc b < popc y ∧ better b y = y) ∨ (¬ popc b < popc y ∧ better b y = b) := by
          unfold better
          by_cases h : popc b < popc y
          · exact .inl ⟨h, if_pos h⟩
          · exact .inr ⟨h, if_neg h⟩
        obtain ⟨p, hp⟩ : ∃ p, p = popc b := ⟨_, rfl⟩
        obtain ⟨q, hq⟩ : ∃ q, q = popc y := ⟨_, rfl⟩
        rw [← hp] at CZ hpq
        rw [← hq] at CY hpq
        clear b3 hbox2 z2 hbel2 CI hp hq
        rcases hpq with ⟨hpq, e⟩ | ⟨hpq, e⟩
        · rw [e] at HGO
          clear e
          go_wp2_with fail
          refine (CY.out _).mono ?_; rintro e w' ⟨rfl, rfl⟩
          go_wp2_with fail
          refine (CZ.out _).mono ?_; rintro e w' ⟨rfl, rfl⟩
          go_wp2_with fail
          go_roundw
          case rel => exact ⟨d, y, by omega, by rw [show N - d = x + 1 by omega]; go_num, rfl, hyl, HLG, HGO, hbel3, hbox3, z3⟩
          case measure => simp [intOf]; omega
        · rw [e] at HGO
          clear e
          go_wp2_with fail
          refine (CY.out _).mono ?_; rintro e w' ⟨rfl, rfl⟩
          go_wp2_with fail
          refine (CZ.out _).mono ?_; rintro e w' ⟨rfl, rfl⟩
          go_wp2_with fail
          go_roundw
          case rel => exact ⟨d, b, by omega, by rw [show N - d = x + 1 by omega]; go_num, rfl, hbl, HBL, HGO, hbel3, hbox3, z3⟩
          case measure => simp [intOf]; omega
set_option maxRecDepth 20000 in
set_option maxHeartbeats 3200000 in
theorem l22Largest_any (P : Nat → Bool) (N : Nat) (os : List Int) (a0 : Option Addr) (c0 : Nat) (hN : N ≤ 24) (hg0 : grpB os = true) (hNo : gord os = (N : Int))
    (CP : Hid (∀ (b : Nat) w, b < 2 ^ N → Ints w a0 c0 os → Calls Try.prog 195 #[.agg #[.slice a0 os.length c0], .int .i64 (b : Int)] w fun e w' => e = .returned (.bool (P b)) ∧ Below w.heap.size w w'))
    : ∀ (f fr a r : Nat) (w : World), N - fr = f → lgGo P N (N - fr) a a = r → fr ≤ N → a < 2 ^ fr → Ints w a0 c0 os →
    Calls Try.prog 200 #[.agg #[.slice a0 os.length c0], .int .i64 (a : Int), .int .i64 (fr : Int)] w fun e w' => e = .returned (.int .i64 (r : Int)) ∧ Below w.heap.size w w' := by
  have CO := Lib.hid (fun w h => l2Order_any a0 c0 os w h hg0)
  rw [hNo] at CO
  have CB := Lib.hid l3Bits_any
  clear hg0 hNo
  intro f
  induction f using Nat.strongRecOn with
  | ind f ih =>
  intro fr a r w hf hr hfn ha h0
  have IH := Lib.hid ih
  have HF := Lib.hid hf
  have HR := Lib.hid hr
  have HA := Lib.hid ha
  have h24 : (2 : Nat) ^ N ≤ 16777216 := by
    have := Nat.pow_le_pow_right (n := 2) (by decide) hN
    simpa using this
  have haN : a < 2 ^ N := Nat.lt_of_lt_of_le ha (Nat.pow_le_pow_right (by decide) hfn)
  have ha24 : a < 16777216 := by omega
  have HAN := Lib.hid haN
  have H24 := Lib.hid h24
  have hb0 := (Below.refl w.heap.size w).alloc (Nat.le_refl _) (.cells #[.slice a0 os.length c0] 26)
  clear ih hf hr ha haN h24
  go_enter Try.func200, Try.ntmps200
  go_wp2_with fail
  go_loopw [7, 8] (fun vb x wr => ∃ (d b : Nat), d + fr ≤ N ∧ x = .int .i64 ((N - d : Nat) : Int) ∧ vb = .int .i64 (b : Int) ∧ b < 16777216 ∧ Hid (b < 2 ^ N) ∧ Hid (lgGo P N d a b = r) ∧ Below w.heap.size w wr ∧ wr.cell? ⟨w.heap.size, 0, none⟩ = some (.slice a0 os.length c0) ∧ w.heap.size < wr.heap.size) (fun _ x _ => (N - intOf x).toNat)
  case atStart => exact ⟨N - fr, a, by omega, by rw [show N - (N - fr) = fr by omega], rfl, ha24, HAN, HR, hb0, by simp [go_sem], by simp⟩
  case round =>
    obtain ⟨d, b, hd, rfl, rfl, hbl, HBL, HG, hbel, hbox, z0⟩ := hrel
    have h1 := h0.below hbel (Nat.le_refl _)
    match d, hd, HG with
    | 0, hd, HG =>
      have e : b = r := HG.out
      subst e
      rw [Nat.sub_zero]
      clear HG HR
      go_wp2_with fail
      refine (CO.out _ h1).mono ?_; rintro e w1 ⟨rfl, b1⟩
      go_wp2_with fail
      go_ret
      exact ⟨rfl, nx hbel b1⟩
    | d + 1, hd, HG =>
      obtain ⟨x, hx⟩ : ∃ x, x = N - (d + 1) := ⟨_, rfl⟩
      have hxn : x + d + 1 ≤ N ∧ N ≤ x + d + 1 := by omega
      have hfx : fr ≤ x := by omega
      have hax : a < 2 ^ x := Nat.lt_of_lt_of_le HA.out (Nat.pow_le_pow_right (by decide) hfx)
      have hcx := or_bit_lt hax
      have hcN : a ||| 2 ^ x < 2 ^ N := Nat.lt_of_lt_of_le hcx (Nat.pow_le_pow_right (by decide) (by omega))
      have h24x : (2 : Nat) ^ x ≤ 16777216 := by
        have := Nat.pow_le_pow_right (n := 2) (by decide) (show x ≤ 24 by omega)
        simpa using this
      have hgo : lgGo P N d a (if P (a ||| 2 ^ x) = true then better b (lgGo P N d (a ||| 2 ^ x) (a ||| 2 ^ x)) else b) = r := by rw [hx]; exact HG.out
      have hlg := lgGo_lt P N d (a ||| 2 ^ x) (a ||| 2 ^ x) (by omega) (by rw [show N - d = x + 1 by omega]; exact hcx) hcN
      rw [← hx]
      have hlt : (x : Int) < N := by omega
      have hw : IntKind.i64.wrap (2 ^ x) = ((2 ^ x : Nat) : Int) := by rw [pow_wrap62 x (by omega)]; simp
      have hor : bits .or .i64 (a : Int) ((2 ^ x : Nat) : Int) = ((a ||| 2 ^ x : Nat) : Int) := or_nat _ _ (by omega) (by omega)
      obtain ⟨T, hT⟩ : ∃ T, T = 2 ^ x := ⟨_, rfl⟩
      have hcx' : a ||| 2 ^ x < 2 ^ (x + 1) := hcx
      rw [← hT] at hgo hcN hw hor hcx' h24x hlg
      obtain ⟨c, hc⟩ : ∃ c, c = a ||| T := ⟨_, rfl⟩
      rw [← hc] at hgo hcN hor hcx' hlg
      have hc24 : c < 16777216 := by have := H24.out; omega
      have HCN := Lib.hid hcN
      have HCX := Lib.hid hcx'
      have HLG := Lib.hid hlg
      have hxN : x + 1 ≤ N := by omega
      clear hx HG hax hcx hcN hcx' hT hc hlg
      go_wp2_with fail
      refine (CO.out _ h1).mono ?_; rintro e w1 ⟨rfl, b1⟩
      have h2 := h1.below b1 (Nat.le_refl _)
      have hbox1 := (b1.cell (p := ⟨w.heap.size, 0, none⟩) z0).trans hbox
      have z1 := Nat.lt_of_lt_of_le z0 b1.size
      have hbel1 := nx hbel b1
      have CP1 := Lib.hid (CP.out c w1 HCN.out h2)
      clear b1 hbox z0 hbel h1
      cases hP : P c with
      | false =>
        rw [hP] at hgo CP1
        have HGO : Hid (lgGo P N d a b = r) := Lib.hid hgo
        clear hgo hP
        go_wp2_with fail
        refine CP1.out.mono ?_; rintro e w2 ⟨rfl, b2⟩
        have hbox2 := (b2.cell (p := ⟨w.heap.size, 0, none⟩) z1).trans hbox1
        have z2 := Nat.lt_of_lt_of_le z1 b2.size
        have hbel2 := nx hbel1 b2
        clear b2 hbox1 z1 hbel1 CP1 h2
        
        go_wp2_with fail
        go_roundw
        case rel => exact ⟨d, b, by omega, by rw [show N - d = x + 1 by omega]; go_num, rfl, hbl, HBL, HGO, hbel2, hbox2, z2⟩
        case measure => simp [intOf]; omega
      | true =>
        rw [hP] at hgo CP1
        have hgo' : lgGo P N d a (better b (lgGo P N d c c)) = r := hgo
        obtain ⟨y, hy⟩ : ∃ y, y = lgGo P N d c c := ⟨_, rfl⟩
        rw [← hy] at hgo' HLG
        have hyl : y < 16777216 := by have := HLG.out; have := H24.out; omega
        have HGO := Lib.hid hgo'
        have HY := Lib.hid hy
        clear hgo hgo' hP hy
        go_wp2_with fail
        refine CP1.out.mono ?_; rintro e w2 ⟨rfl, b2⟩
        have h3 := h2.below b2 (Nat.le_refl _)
        have hbox2 := (b2.cell (p := ⟨w.heap.size, 0, none⟩) z1).trans hbox1
        have z2 := Nat.lt_of_lt_of_le z1 b2.size
        have hbel2 := nx hbel1 b2
        have CI := Lib.hid (IH.out d (by have := HF.out; omega) (x + 1) c y w2 (by omega) (by rw [show N - (x + 1) = d by omega]; exact HY.out.symm) (by omega) HCX.out h3)
        rw [show ((x + 1 : Nat) : Int) = (x : Int) + 1 by omega] at CI
        clear b2 hbox1 z1 hbel1 CP1 h2 h3
        
        go_wp2_with fail
        refine CI.out.mono ?_; rintro e w3 ⟨rfl, b3⟩
        have hbox3 := (b3.cell (p := ⟨w.heap.size, 0, none⟩) z2).trans hbox2
        have z3 := Nat.lt_of_lt_of_le z2 b3.size
        have hbel3 := nx hbel2 b3
        have CY := Lib.hid (CB.out y (by omega))
        have CZ := Lib.hid (CB.out b (by omega))
        have hpq : (popc b < popc y ∧ better b y = y) ∨ (¬ popc b < popc y ∧ better b y = b) := by
          unfold better
          by_cases h : popc b < popc y
          · exact .inl ⟨h, if_pos h⟩
          · exact .inr ⟨h, if_neg h⟩
        obtain ⟨p, hp⟩ : ∃ p, p = popc b := ⟨_, rfl⟩
        obtain ⟨q, hq⟩ : ∃ q, q = popc y := ⟨_, rfl⟩
        rw [← hp] at CZ hpq
        rw [← hq] at CY hpq
        clear b3 hbox2 z2 hbel2 CI hp hq
        rcases hpq with ⟨hpq, e⟩ | ⟨hpq, e⟩
        · rw [e] at HGO
          clear e
          go_wp2_with fail
          refine (CY.out _).mono ?_; rintro e w' ⟨rfl, rfl⟩
          go_wp2_with fail
          refine (CZ.out _).mono ?_; rintro e w' ⟨rfl, rfl⟩
          go_wp2_with fail
          go_roundw
          case rel => exact ⟨d, y, by omega, by rw [show N - d = x + 1 by omega]; go_num, rfl, hyl, HLG, HGO, hbel3, hbox3, z3⟩
          case measure => simp [intOf]; omega
        · rw [e] at HGO
          clear e
          go_wp2_with fail
          refine (CY.out _).mono ?_; rintro e w' ⟨rfl, rfl⟩
          go_wp2_with fail
          refine (CZ.out _).mono ?_; rintro e w' ⟨rfl, rfl⟩
          go_wp2_with fail
          go_roundw
          case rel => exact ⟨d, b, by omega, by rw [show N - d = x + 1 by omega]; go_num, rfl, hbl, HBL, HGO, hbel3, hbox3, z3⟩
          case measure => simp [intOf]; omega
set_option maxRecDepth 20000 in
set_option maxHeartbeats 3200000 in
theorem l23Largest_any (P : Nat → Bool) (N : Nat) (os : List Int) (a0 : Option Addr) (c0 : Nat) (hN : N ≤ 24) (hg0 : grpB os = true) (hNo : gord os = (N : Int))
    (CP : Hid (∀ (b : Nat) w, b < 2 ^ N → Ints w a0 c0 os → Calls Try.prog 124 #[.agg #[.slice a0 os.length c0], .int .i64 (b : Int)] w fun e w' => (∃ v : Int, e = .returned (.int .i64 v) ∧ (v == 0) = P b) ∧ Below w.heap.size w w'))
    : ∀ (f fr a r : Nat) (w : World), N - fr = f → lgGo P N (N - fr) a a = r → fr ≤ N → a < 2 ^ fr → Ints w a0 c0 os →
    Calls Try.prog 243 #[.agg #[.slice a0 os.length c0], .int .i64 (a : Int), .int .i64 (fr : Int)] w fun e w' => e = .returned (.int .i64 (r : Int)) ∧ Below w.heap.size w w' := by
  have CO := Lib.hid (fun w h => l2Order_any a0 c0 os w h hg0)
  rw [hNo] at CO
  have CB := Lib.hid l3Bits_any
  clear hg0 hNo
  intro f
  induction f using Nat.strongRecOn with
  | ind f ih =>
  intro fr a r w hf hr hfn ha h0
  have IH := Lib.hid ih
  have HF := Lib.hid hf
  have HR := Lib.hid hr
  have HA := Lib.hid ha
  have h24 : (2 : Nat) ^ N ≤ 16777216 := by
    have := Nat.pow_le_pow_right (n := 2) (by decide) hN
    simpa using this
  have haN : a < 2 ^ N := Nat.lt_of_lt_of_le ha (Nat.pow_le_pow_right (by decide) hfn)
  have ha24 : a < 16777216 := by omega
  have HAN := Lib.hid haN
  have H24 := Lib.hid h24
  have hb0 := (Below.refl w.heap.size w).alloc (Nat.le_refl _) (.cells #[.slice a0 os.length c0] 26)
  clear ih hf hr ha haN h24
  go_enter Try.func243, Try.ntmps243
  go_wp2_with fail
  go_loopw [7, 8] (fun vb x wr => ∃ (d b : Nat), d + fr ≤ N ∧ x = .int .i64 ((N - d : Nat) : Int) ∧ vb = .int .i64 (b : Int) ∧ b < 16777216 ∧ Hid (b < 2 ^ N) ∧ Hid (lgGo P N d a b = r) ∧ Below w.heap.size w wr ∧ wr.cell? ⟨w.heap.size, 0, none⟩ = some (.slice a0 os.length c0) ∧ w.heap.size < wr.heap.size) (fun _ x _ => (N - intOf x).toNat)
  case atStart => exact ⟨N - fr, a, by omega, by rw [show N - (N - fr) = fr by omega], rfl, ha24, HAN, HR, hb0, by simp [go_sem], by simp⟩
  case round =>
    obtain ⟨d, b, hd, rfl, rfl, hbl, HBL, HG, hbel, hbox, z0⟩ := hrel
    have h1 := h0.below hbel (Nat.le_refl _)
    match d, hd, HG with
    | 0, hd, HG =>
      have e : b = r := HG.out
      subst e
      rw [Nat.sub_zero]
      clear HG HR
      go_wp2_with fail
      refine (CO.out _ h1).mono ?_; rintro e w1 ⟨rfl, b1⟩
      go_wp2_with fail
      go_ret
      exact ⟨rfl, nx hbel b1⟩
    | d + 1, hd, HG =>
      obtain ⟨x, hx⟩ : ∃ x, x = N - (d + 1) := ⟨_, rfl⟩
      have hxn : x + d + 1 ≤ N ∧ N ≤ x + d + 1 := by omega
      have hfx : fr ≤ x := by omega
      have hax : a < 2 ^ x := Nat.lt_of_lt_of_le HA.out (Nat.pow_le_pow_right (by decide) hfx)
      have hcx := or_bit_lt hax
      have hcN : a ||| 2 ^ x < 2 ^ N := Nat.lt_of_lt_of_le hcx (Nat.pow_le_pow_right (by decide) (by omega))
      have h24x : (2 : Nat) ^ x ≤ 16777216 := by
        have := Nat.pow_le_pow_right (n := 2) (by decide) (show x ≤ 24 by omega)
        simpa using this
      have hgo : lgGo P N d a (if P (a ||| 2 ^ x) = true then better b (lgGo P N d (a ||| 2 ^ x) (a ||| 2 ^ x)) else b) = r := by rw [hx]; exact HG.out
      have hlg := lgGo_lt P N d (a ||| 2 ^ x) (a ||| 2 ^ x) (by omega) (by rw [show N - d = x + 1 by omega]; exact hcx) hcN
      rw [← hx]
      have hlt : (x : Int) < N := by omega
      have hw : IntKind.i64.wrap (2 ^ x) = ((2 ^ x : Nat) : Int) := by rw [pow_wrap62 x (by omega)]; simp
      have hor : bits .or .i64 (a : Int) ((2 ^ x : Nat) : Int) = ((a ||| 2 ^ x : Nat) : Int) := or_nat _ _ (by omega) (by omega)
      obtain ⟨T, hT⟩ : ∃ T, T = 2 ^ x := ⟨_, rfl⟩
      have hcx' : a ||| 2 ^ x < 2 ^ (x + 1) := hcx
      rw [← hT] at hgo hcN hw hor hcx' h24x hlg
      obtain ⟨c, hc⟩ : ∃ c, c = a ||| T := ⟨_, rfl⟩
      rw [← hc] at hgo hcN hor hcx' hlg
      have hc24 : c < 16777216 := by have := H24.out; omega
      have HCN := Lib.hid hcN
      have HCX := Lib.hid hcx'
      have HLG := Lib.hid hlg
      have hxN : x + 1 ≤ N := by omega
      clear hx HG hax hcx hcN hcx' hT hc hlg
      go_wp2_with fail
      refine (CO.out _ h1).mono ?_; rintro e w1 ⟨rfl, b1⟩
      have h2 := h1.below b1 (Nat.le_refl _)
      have hbox1 := (b1.cell (p := ⟨w.heap.size, 0, none⟩) z0).trans hbox
      have z1 := Nat.lt_of_lt_of_le z0 b1.size
      have hbel1 := nx hbel b1
      have CP1 := Lib.hid (CP.out c w1 HCN.out h2)
      clear b1 hbox z0 hbel h1
      cases hP : P c with
      | false =>
        rw [hP] at hgo CP1
        have HGO : Hid (lgGo P N d a b = r) := Lib.hid hgo
        clear hgo hP
        go_wp2_with fail
        refine CP1.out.mono ?_; rintro e w2 ⟨⟨v, rfl, hv⟩, b2⟩
        have hbox2 := (b2.cell (p := ⟨w.heap.size, 0, none⟩) z1).trans hbox1
        have z2 := Nat.lt_of_lt_of_le z1 b2.size
        have hbel2 := nx hbel1 b2
        clear b2 hbox1 z1 hbel1 CP1 h2
        have hv2 : (v != 0) = true := by rw [bne, hv]; rfl
        go_wp2_with fail
        go_roundw
        case rel => exact ⟨d, b, by omega, by rw [show N - d = x + 1 by omega]; go_num, rfl, hbl, HBL, HGO, hbel2, hbox2, z2⟩
        case measure => simp [intOf]; omega
      | true =>
        rw [hP] at hgo CP1
        have hgo' : lgGo P N d a (better b (lgGo P N d c c)) = r := hgo
        obtain ⟨y, hy⟩ : ∃ y, y = lgGo P N d c c := ⟨_, rfl⟩
        rw [← hy] at hgo' HLG
        have hyl : y < 16777216 := by have := HLG.out; have := H24.out; omega
        have HGO := Lib.hid hgo'
        have HY := Lib.hid hy
        clear hgo hgo' hP hy
        go_wp2_with fail
        refine CP1.out.mono ?_; rintro e w2 ⟨⟨v, rfl, hv⟩, b2⟩
        have h3 := h2.below b2 (Nat.le_refl _)
        have hbox2 := (b2.cell (p := ⟨w.heap.size, 0, none⟩) z1).trans hbox1
        have z2 := Nat.lt_of_lt_of_le z1 b2.size
        have hbel2 := nx hbel1 b2
        have CI := Lib.hid (IH.out d (by have := HF.out; omega) (x + 1) c y w2 (by omega) (by rw [show N - (x + 1) = d by omega]; exact HY.out.symm) (by omega) HCX.out h3)
        rw [show ((x + 1 : Nat) : Int) = (x : Int) + 1 by omega] at CI
        clear b2 hbox1 z1 hbel1 CP1 h2 h3
        have hv2 : (v != 0) = false := by rw [bne, hv]; rfl
        go_wp2_with fail
        refine CI.out.mono ?_; rintro e w3 ⟨rfl, b3⟩
        have hbox3 := (b3.cell (p := ⟨w.heap.size, 0, none⟩) z2).trans hbox2
        have z3 := Nat.lt_of_lt_of_le z2 b3.size
        have hbel3 := nx hbel2 b3
        have CY := Lib.hid (CB.out y (by omega))
        have CZ := Lib.hid (CB.out b (by omega))
        have hpq : (popc b < popc y ∧ better b y = y) ∨ (¬ popc b < popc y ∧ better b y = b) := by
          unfold better
          by_cases h : popc b < popc y
          · exact .inl ⟨h, if_pos h⟩
          · exact .inr ⟨h, if_neg h⟩
        obtain ⟨p, hp⟩ : ∃ p, p = popc b := ⟨_, rfl⟩
        obtain ⟨q, hq⟩ : ∃ q, q = popc y := ⟨_, rfl⟩
        rw [← hp] at CZ hpq
        rw [← hq] at CY hpq
        clear b3 hbox2 z2 hbel2 CI hp hq
        rcases hpq with ⟨hpq, e⟩ | ⟨hpq, e⟩
        · rw [e] at HGO
          clear e
          go_wp2_with fail
          refine (CY.out _).mono ?_; rintro e w' ⟨rfl, rfl⟩
          go_wp2_with fail
          refine (CZ.out _).mono ?_; rintro e w' ⟨rfl, rfl⟩
          go_wp2_with fail
          go_roundw
          case rel => exact ⟨d, y, by omega, by rw [show N - d = x + 1 by omega]; go_num, rfl, hyl, HLG, HGO, hbel3, hbox3, z3⟩
          case measure => simp [intOf]; omega
        · rw [e] at HGO
          clear e
          go_wp2_with fail
          refine (CY.out _).mono ?_; rintro e w' ⟨rfl, rfl⟩
          go_wp2_with fail
          refine (CZ.out _).mono ?_; rintro e w' ⟨rfl, rfl⟩
          go_wp2_with fail
          go_roundw
          case rel => exact ⟨d, b, by omega, by rw [show N - d = x + 1 by omega]; go_num, rfl, hbl, HBL, HGO, hbel3, hbox3, z3⟩
          case measure => simp [intOf]; omega
end Go.Proofs.Ytbidkjhgodkamaa
