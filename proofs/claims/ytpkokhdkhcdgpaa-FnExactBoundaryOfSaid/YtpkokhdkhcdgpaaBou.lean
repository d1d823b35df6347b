/-
Contracts of both sides' BoundaryOf. Conditions: lengths at most 2000000.
-/
import Derived.Test.YtpkokhdkhcdgpaaPop
import Derived.Test.YtpkokhdkhcdgpaaCsf
import Derived.Deep.RegionHeld3
namespace Go.Proofs.Ytpkokhdkhcdgpaa
open Go.RowKit Go.ChangeShapes
set_option linter.unusedVariables false

theorem or_disj : ∀ (n p q : Nat), p ≤ n → p &&& q = 0 → p ||| q = p + q
  | 0, p, q, h, _ => by
    obtain rfl : p = 0 := by omega
    simp
  | n + 1, p, q, h, hz => by
    rcases Nat.eq_zero_or_pos p with e | e
    · subst e; simp
    · have h2 : p / 2 &&& q / 2 = 0 := by rw [← Nat.and_div_two, hz]
      have ih := or_disj n (p / 2) (q / 2) (by omega) h2
      have e1 : (p ||| q) / 2 = p / 2 + q / 2 := by rw [Nat.or_div_two, ih]
      have e3 : ¬ (p % 2 = 1 ∧ q % 2 = 1) := fun hh => by
        have := Nat.and_mod_two_eq_one.2 hh
        rw [hz] at this; omega
      have e4 : (p ||| q) % 2 = p % 2 + q % 2 := by
        rcases Nat.mod_two_eq_zero_or_one (p ||| q) with e5 | e5
        · have h6 : ¬ (p % 2 = 1 ∨ q % 2 = 1) := fun hh => by
            have := Nat.or_mod_two_eq_one.2 hh
            omega
          omega
        · have := Nat.or_mod_two_eq_one.1 e5
          omega
      omega
theorem minus_sub {s x : Nat} (hs : s < 9223372036854775808) (hx : x < 9223372036854775808) : s - (s &&& x) = minusS s x := by
  have h1 : minusS s x &&& (s &&& x) = 0 := by
    apply Nat.eq_of_testBit_eq
    intro i
    rw [Nat.testBit_and, minusS_bit s x i hs hx, Nat.testBit_and, Nat.zero_testBit]
    cases s.testBit i <;> cases x.testBit i <;> rfl
  have h2 : minusS s x ||| (s &&& x) = s := by
    apply Nat.eq_of_testBit_eq
    intro i
    rw [Nat.testBit_or, minusS_bit s x i hs hx, Nat.testBit_and]
    cases s.testBit i <;> cases x.testBit i <;> rfl
  have h3 := or_disj _ _ _ (Nat.le_refl _) h1
  omega
/-- A sum over a list. -/
def smL (F : Nat → Nat) (l : List Int) : Nat := l.foldl (fun s y => s + F y.toNat) 0
theorem smL_take {F : Nat → Nat} {l : List Int} {k : Nat} (h : k < l.length) : smL F (l.take (k + 1)) = smL F (l.take k) + F l[k].toNat := by
  unfold smL; rw [take_snoc' l k h, List.foldl_append]; rfl
theorem smL_le {F : Nat → Nat} {b : Nat} (hF : ∀ y, F y ≤ b) (l : List Int) : smL F l ≤ b * l.length := by
  unfold smL
  have : ∀ (l : List Int) (s : Nat), l.foldl (fun s y => s + F y.toNat) s ≤ s + b * l.length := by
    intro l
    induction l with
    | nil => intro s; simp
    | cons y l ih =>
      intro s
      have h1 := ih (s + F y.toNat)
      have h2 := hF y.toNat
      rw [List.length_cons, Nat.mul_add, List.foldl_cons]
      omega
  have := this l 0
  omega
def boF (os : List Int) (a x y : Nat) : Nat := popc (minusS (shS os a y) x)
def bouV (os : List Int) (a x : Int) : Int := if conB os a = true ∧ setB os x = true then (smL (boF os a.toNat x.toNat) (mems x.toNat) : Int) else -1

set_option maxRecDepth 20000 in
set_option maxHeartbeats 1600000 in
theorem bou_impl (a0 : Option Addr) (c0 : Nat) (os : List Int) (a x : Int) (w : World) (h0 : Ints w a0 c0 os) (hl : os.length ≤ 2000000) :
    Calls Try.prog 21 #[.agg #[.slice a0 os.length c0], .int .i64 a, .int .i64 x] w fun e w' => e = .returned (.int .i64 (bouV os a x)) ∧ Below w.heap.size w w' := by
  have hb0 := (Below.refl w.heap.size w).alloc (Nat.le_refl _) (.cells #[.slice a0 os.length c0] 27)
  have h1 := h0.below hb0 (Nat.le_refl _)
  have C := Lib.hid (fun w h => isCon_impl a0 c0 os a w h hl)
  have CS := Lib.hid (fun w h => isSet_impl a0 c0 os x w h hl)
  cases hc : conB os a with
  | false =>
    have e : bouV os a x = -1 := by simp [bouV, hc]
    rw [e]
    rw [hc] at C
    clear hc e
    go_enter Try.func21, Try.ntmps21
    go_wp2_with fail
    refine (C.out _ h1).mono ?_; rintro e w1 ⟨rfl, b1⟩
    go_wp2_with fail
    go_ret
    exact ⟨rfl, nx hb0 b1⟩
  | true =>
    rw [hc] at C
    cases hs : setB os x with
    | false =>
      have e : bouV os a x = -1 := by simp [bouV, hs]
      rw [e]
      rw [hs] at CS
      clear hc hs e
      go_enter Try.func21, Try.ntmps21
      go_wp2_with fail
      refine (C.out _ h1).mono ?_; rintro e w1 ⟨rfl, b1⟩
      have q1 := box_cell b1 (by simp)
      have h2 := h1.below b1 (Nat.le_refl _)
      have hb1 := nx hb0 b1
      go_wp2_with fail
      refine (CS.out _ h2).mono ?_; rintro e w2 ⟨rfl, b2⟩
      go_wp2_with fail
      go_ret
      exact ⟨rfl, nx hb1 b2⟩
    | true =>
      obtain ⟨g, a, rfl, ha, _, _⟩ := conB_parts hc
      obtain ⟨_, x, rfl, hx⟩ := setB_parts hs
      have hT := setT_bd g
      have e : bouV os (a : Int) (x : Int) = (smL (boF os a x) (mems x) : Int) := by simp [bouV, hc, hs]
      rw [e]
      rw [hs] at CS
      have CL := Lib.hid (members_any x (by omega))
      have CH := Lib.hid (fun (y : Nat) w h hy => (show Calls Try.prog 56 #[.agg #[.slice a0 os.length c0], .int .i64 a, .int .i64 y] w fun e w' => e = .returned (.int .i64 (shS os a y : Int)) ∧ Below w.heap.size w w' from shift_any a0 c0 os a y w h g (by omega) hy))
      have HSH : Hid (∀ y, shS os a y < 16777216) := Lib.hid (fun y => by simpa using shS_lt g a y)
      have CB := Lib.hid bits_any
      have HM := Lib.hid (fun z (hz : z ∈ mems x) => mems_bd hz)
      have hlen := mems_len x
      have HLE : Hid (∀ k, smL (boF os a x) ((mems x).take k) ≤ 64 * 64) := Lib.hid (fun k => by
        have h1 := smL_le (F := boF os a x) (b := 64) (fun y => popc_le64 _) ((mems x).take k)
        have h2 : ((mems x).take k).length ≤ 64 := by simp; omega
        have := Nat.mul_le_mul_left 64 h2
        omega)
      obtain ⟨l, hll⟩ : ∃ l, l = mems x := ⟨_, rfl⟩
      rw [← hll] at CL HM HLE hlen ⊢
      have HBO : Hid (∀ y, boF os a x y = popc (minusS (shS os a y) x)) := Lib.hid (fun _ => rfl)
      obtain ⟨F, hF⟩ : ∃ F, F = boF os a x := ⟨_, rfl⟩
      rw [← hF] at HLE HBO ⊢
      have ha24 : a < 16777216 := by omega
      have hx24 : x < 16777216 := by omega
      clear hll hF hc hs e hT ha hx g
      go_enter Try.func21, Try.ntmps21
      go_wp2_with fail
      refine (C.out _ h1).mono ?_; rintro e w1 ⟨rfl, b1⟩
      have q1 := box_cell b1 (by simp)
      have z1 : w.heap.size < w1.heap.size := by have := b1.size; simp at this; omega
      have h2 := h1.below b1 (Nat.le_refl _)
      have hb1 := nx hb0 b1
      go_wp2_with fail
      refine (CS.out _ h2).mono ?_; rintro e w2 ⟨rfl, b2⟩
      have q2 := (b2.cell (p := ⟨w.heap.size, 0, none⟩) z1).trans q1
      have z2 := Nat.lt_of_lt_of_le z1 b2.size
      have hb2 := nx hb1 b2
      clear b1 b2 q1 z1 h1 h2 hb0 hb1 C CS
      go_wp2_with fail
      refine (CL.out _).mono ?_; rintro e w3 ⟨a1, c1, rfl, o1, b3⟩
      have q3 := (b3.cell (p := ⟨w.heap.size, 0, none⟩) z2).trans q2
      have z3 := Nat.lt_of_lt_of_le z2 b3.size
      have hb3 := nx hb2 b3
      obtain ⟨-, -, -, -, hcs⟩ := o1.ints
      have HCS := Lib.hid hcs
      clear b3 q2 z2 hb2 hcs
      go_wp2_with fail
      go_loopw [7, 23] (fun vs vi wr => ∃ (k s : Nat), k ≤ l.length ∧ vi = .int .i64 (k : Int) ∧ vs = .int .i64 (s : Int) ∧ s ≤ 4096 ∧ Hid (s = smL F (l.take k)) ∧ Below w3.heap.size w3 wr) (fun _ i _ => l.length - (intOf i).toNat)
      case atStart => exact ⟨0, 0, by omega, rfl, rfl, by omega, Lib.hid (by simp [smL]), Below.refl _ _⟩
      case round =>
        obtain ⟨k, s, hk, rfl, rfl, hs, HS, hbel⟩ := hrel
        by_cases hlt : k < l.length
        · rcases HCS.out with hcs | ⟨b, off, rfl, hbB, hcell⟩
          · subst hcs; simp at hlt
          · have c2 : wr.cell? ⟨b, off + k, none⟩ = some (.int .i64 l[k]) := (hbel.cell (p := ⟨b, off + k, none⟩) hbB).trans (hcell k hlt)
            have q4 := (hbel.cell (p := ⟨w.heap.size, 0, none⟩) z3).trans q3
            have h3 := h0.below (nx hb3 hbel) (Nat.le_refl _)
            obtain ⟨y1, y2⟩ := HM.out _ (List.getElem_mem hlt)
            obtain ⟨y, hy⟩ := Int.eq_ofNat_of_zero_le y1
            have hst := smL_take (F := F) hlt
            have hle := HLE.out (k + 1)
            rw [hy] at c2 hst
            simp only [Int.toNat_natCast] at hst
            rw [← HS.out, HBO.out] at hst
            have hsh := HSH.out y
            have CY := Lib.hid (fun w h => CH.out y w h (by omega))
            obtain ⟨S, hS⟩ : ∃ S, S = shS os a y := ⟨_, rfl⟩
            rw [← hS] at hst hsh CY
            have hml : minusS S x ≤ S := Nat.and_le_left
            have hmin := andNot_nat S x (by omega) (by omega)
            have CP := Lib.hid (CB.out (minusS S x) (by omega))
            obtain ⟨M, hM⟩ : ∃ M, M = minusS S x := ⟨_, rfl⟩
            rw [← hM] at hst hmin CP hml
            obtain ⟨p, hp⟩ : ∃ p, p = popc M := ⟨_, rfl⟩
            rw [← hp] at hst CP
            rw [hst] at hle
            have HST := Lib.hid hst
            have zb : b < wr.heap.size := Nat.lt_of_lt_of_le hbB hbel.size
            have zw : w.heap.size < wr.heap.size := Nat.lt_of_lt_of_le z3 hbel.size
            have hki : (k : Int) < l.length := by omega
            clear hS hM hp hst hy y1 y2 hcell HCS
            go_wp2_with fail
            refine (CY.out _ h3).mono ?_; rintro e w4 ⟨rfl, b4⟩
            go_wp2_with fail
            refine (CP.out _).mono ?_; rintro e w' ⟨rfl, rfl⟩
            go_wp2_with fail
            go_roundw
            case rel => exact ⟨k + 1, s + p, by omega, by go_num, by go_num, by omega, Lib.hid HST.out.symm, nx hbel b4⟩
            case measure => simp only [intOf]; omega
        · obtain rfl : k = l.length := by omega
          have e := HS.out
          rw [List.take_length] at e
          subst e
          clear HS HM HCS HLE HBO HSH
          go_wp2_with fail
          go_ret
          exact ⟨rfl, nx hb3 hbel⟩

set_option maxRecDepth 20000 in
set_option maxHeartbeats 1600000 in
theorem bou_spec (a0 : Option Addr) (c0 : Nat) (os : List Int) (a x : Int) (w : World) (h0 : Ints w a0 c0 os) (hl : os.length ≤ 2000000) :
    Calls Try.prog 20 #[.agg #[.slice a0 os.length c0], .int .i64 a, .int .i64 x] w fun e w' => e = .returned (.int .i64 (bouV os a x)) ∧ Below w.heap.size w w' := by
  have hb0 := (Below.refl w.heap.size w).alloc (Nat.le_refl _) (.cells #[.slice a0 os.length c0] 27)
  have h1 := h0.below hb0 (Nat.le_refl _)
  have C := Lib.hid (fun w h => isCon_spec a0 c0 os a w h hl)
  have CS := Lib.hid (fun w h => isSet_spec a0 c0 os x w h hl)
  cases hc : conB os a with
  | false =>
    have e : bouV os a x = -1 := by simp [bouV, hc]
    rw [e]
    rw [hc] at C
    clear hc e
    go_enter Try.func20, Try.ntmps20
    go_wp2_with fail
    refine (C.out _ h1).mono ?_; rintro e w1 ⟨rfl, b1⟩
    go_wp2_with fail
    go_ret
    exact ⟨rfl, nx hb0 b1⟩
  | true =>
    rw [hc] at C
    cases hs : setB os x with
    | false =>
      have e : bouV os a x = -1 := by simp [bouV, hs]
      rw [e]
      rw [hs] at CS
      clear hc hs e
      go_enter Try.func20, Try.ntmps20
      go_wp2_with fail
      refine (C.out _ h1).mono ?_; rintro e w1 ⟨rfl, b1⟩
      have q1 := box_cell b1 (by simp)
      have h2 := h1.below b1 (Nat.le_refl _)
      have hb1 := nx hb0 b1
      go_wp2_with fail
      refine (CS.out _ h2).mono ?_; rintro e w2 ⟨rfl, b2⟩
      go_wp2_with fail
      go_ret
      exact ⟨rfl, nx hb1 b2⟩
    | true =>
      obtain ⟨g, a, rfl, ha, _, _⟩ := conB_parts hc
      obtain ⟨_, x, rfl, hx⟩ := setB_parts hs
      have hT := setT_bd g
      have e : bouV os (a : Int) (x : Int) = (smL (boF os a x) (mems x) : Int) := by simp [bouV, hc, hs]
      rw [e]
      rw [hs] at CS
      have CL := Lib.hid (l3List_any x (by omega))
      have CH := Lib.hid (fun (y : Nat) w h hy => (show Calls Try.prog 51 #[.agg #[.slice a0 os.length c0], .int .i64 a, .int .i64 y] w fun e w' => e = .returned (.int .i64 (shS os a y : Int)) ∧ Below w.heap.size w w' from l3Shift_any a0 c0 os a y w h g (by omega) hy))
      have HSH : Hid (∀ y, shS os a y < 16777216) := Lib.hid (fun y => by simpa using shS_lt g a y)
      have CB := Lib.hid l3Bits_any
      have HM := Lib.hid (fun z (hz : z ∈ mems x) => mems_bd hz)
      have hlen := mems_len x
      have HLE : Hid (∀ k, smL (boF os a x) ((mems x).take k) ≤ 64 * 64) := Lib.hid (fun k => by
        have h1 := smL_le (F := boF os a x) (b := 64) (fun y => popc_le64 _) ((mems x).take k)
        have h2 : ((mems x).take k).length ≤ 64 := by simp; omega
        have := Nat.mul_le_mul_left 64 h2
        omega)
      obtain ⟨l, hll⟩ : ∃ l, l = mems x := ⟨_, rfl⟩
      rw [← hll] at CL HM HLE hlen ⊢
      have HBO : Hid (∀ y, boF os a x y = popc (minusS (shS os a y) x)) := Lib.hid (fun _ => rfl)
      obtain ⟨F, hF⟩ : ∃ F, F = boF os a x := ⟨_, rfl⟩
      rw [← hF] at HLE HBO ⊢
      have ha24 : a < 16777216 := by omega
      have hx24 : x < 16777216 := by omega
      clear hll hF hc hs e hT ha hx g
      go_enter Try.func20, Try.ntmps20
      go_wp2_with fail
      refine (C.out _ h1).mono ?_; rintro e w1 ⟨rfl, b1⟩
      have q1 := box_cell b1 (by simp)
      have z1 : w.heap.size < w1.heap.size := by have := b1.size; simp at this; omega
      have h2 := h1.below b1 (Nat.le_refl _)
      have hb1 := nx hb0 b1
      go_wp2_with fail
      refine (CS.out _ h2).mono ?_; rintro e w2 ⟨rfl, b2⟩
      have q2 := (b2.cell (p := ⟨w.heap.size, 0, none⟩) z1).trans q1
      have z2 := Nat.lt_of_lt_of_le z1 b2.size
      have hb2 := nx hb1 b2
      clear b1 b2 q1 z1 h1 h2 hb0 hb1 C CS
      go_wp2_with fail
      refine (CL.out _).mono ?_; rintro e w3 ⟨a1, c1, rfl, o1, b3⟩
      have q3 := (b3.cell (p := ⟨w.heap.size, 0, none⟩) z2).trans q2
      have z3 := Nat.lt_of_lt_of_le z2 b3.size
      have hb3 := nx hb2 b3
      obtain ⟨-, -, -, -, hcs⟩ := o1.ints
      have HCS := Lib.hid hcs
      clear b3 q2 z2 hb2 hcs
      go_wp2_with fail
      go_loopw [7, 9] (fun vs vi wr => ∃ (k s : Nat), k ≤ l.length ∧ vi = .int .i64 (k : Int) ∧ vs = .int .i64 (s : Int) ∧ s ≤ 4096 ∧ Hid (s = smL F (l.take k)) ∧ Below w3.heap.size w3 wr) (fun _ i _ => l.length - (intOf i).toNat)
      case atStart => exact ⟨0, 0, by omega, rfl, rfl, by omega, Lib.hid (by simp [smL]), Below.refl _ _⟩
      case round =>
        obtain ⟨k, s, hk, rfl, rfl, hs, HS, hbel⟩ := hrel
        by_cases hlt : k < l.length
        · rcases HCS.out with hcs | ⟨b, off, rfl, hbB, hcell⟩
          · subst hcs; simp at hlt
          · have c2 : wr.cell? ⟨b, off + k, none⟩ = some (.int .i64 l[k]) := (hbel.cell (p := ⟨b, off + k, none⟩) hbB).trans (hcell k hlt)
            have q4 := (hbel.cell (p := ⟨w.heap.size, 0, none⟩) z3).trans q3
            have h3 := h0.below (nx hb3 hbel) (Nat.le_refl _)
            obtain ⟨y1, y2⟩ := HM.out _ (List.getElem_mem hlt)
            obtain ⟨y, hy⟩ := Int.eq_ofNat_of_zero_le y1
            have hst := smL_take (F := F) hlt
            have hle := HLE.out (k + 1)
            rw [hy] at c2 hst
            simp only [Int.toNat_natCast] at hst
            rw [← HS.out, HBO.out] at hst
            have hsh := HSH.out y
            have CY := Lib.hid (fun w h => CH.out y w h (by omega))
            obtain ⟨S, hS⟩ : ∃ S, S = shS os a y := ⟨_, rfl⟩
            rw [← hS] at hst hsh CY
            have hml : minusS S x ≤ S := Nat.and_le_left
            have hand := and_nat S x (by omega) (by omega)
            have hal : S &&& x ≤ S := Nat.and_le_left
            have hmin : (S : Int) - ((S &&& x : Nat) : Int) = ((minusS S x : Nat) : Int) := by rw [← minus_sub (s := S) (x := x) (by omega) (by omega)]; omega
            obtain ⟨A, hA⟩ : ∃ A, A = S &&& x := ⟨_, rfl⟩
            rw [← hA] at hand hal hmin
            clear hA
            have CP := Lib.hid (CB.out (minusS S x) (by omega))
            obtain ⟨M, hM⟩ : ∃ M, M = minusS S x := ⟨_, rfl⟩
            rw [← hM] at hst hmin CP hml
            obtain ⟨p, hp⟩ : ∃ p, p = popc M := ⟨_, rfl⟩
            rw [← hp] at hst CP
            rw [hst] at hle
            have HST := Lib.hid hst
            have zb : b < wr.heap.size := Nat.lt_of_lt_of_le hbB hbel.size
            have zw : w.heap.size < wr.heap.size := Nat.lt_of_lt_of_le z3 hbel.size
            have hki : (k : Int) < l.length := by omega
            clear hS hM hp hst hy y1 y2 hcell HCS
            go_wp2_with fail
            go_region_held3 (fun w' => w'.cell? ⟨w.heap.size, 0, none⟩ = some (.slice a0 os.length c0) ∧ w'.cell? ⟨b, off + k, none⟩ = some (.int .i64 y)) (exact ⟨by assumption, by assumption⟩) (first
              | (go_at_call 51; refine (CY.out _ h3.drew).mono ?_; rintro e w4 ⟨rfl, b4⟩; have q5 := (b4.cell (p := ⟨w.heap.size, 0, none⟩) zw).trans q4; have c3 := (b4.cell (p := ⟨b, off + k, none⟩) zb).trans c2))
            go_wp2_with fail
            refine (CP.out _).mono ?_; rintro e w' ⟨rfl, rfl⟩
            go_wp2_with fail
            go_roundw
            case rel => exact ⟨k + 1, s + p, by omega, by go_num, by go_num, by omega, Lib.hid HST.out.symm, nx hbel (below_undrew b4)⟩
            case measure => simp only [intOf]; omega
        · obtain rfl : k = l.length := by omega
          have e := HS.out
          rw [List.take_length] at e
          subst e
          clear HS HM HCS HLE HBO HSH
          go_wp2_with fail
          go_ret
          exact ⟨rfl, nx hb3 hbel⟩
end Go.Proofs.Ytpkokhdkhcdgpaa
