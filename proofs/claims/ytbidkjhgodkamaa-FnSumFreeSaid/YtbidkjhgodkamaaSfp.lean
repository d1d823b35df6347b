/-
Contracts of both sides' SumFreePart: the greatest part whose multiples lie in the middle third. Conditions: lengths at most 2000000.
-/
import Derived.Test.YtbidkjhgodkamaaMid
import Derived.Test.YtbidkjhgodkamaaSrch
import Derived.Test.YtbidkjhgodkamaaCon
namespace Go.Proofs.Ytbidkjhgodkamaa
open Go.RowKit Go.ChangeShapes
set_option linter.unusedVariables false

/-- The elements of a list whose multiples by t lie in m. -/
def prL (m n t : Nat) (l : List Int) : Nat := l.foldl (fun s y => if m.testBit (y.toNat * t % n) = true then s ||| 2 ^ y.toNat else s) 0
theorem prL_take {m n t : Nat} {l : List Int} {k : Nat} (h : k < l.length) : prL m n t (l.take (k + 1)) = if m.testBit (l[k].toNat * t % n) = true then prL m n t (l.take k) ||| 2 ^ l[k].toNat else prL m n t (l.take k) := by
  unfold prL
  rw [take_snoc' l k h, List.foldl_append]
  rfl
theorem prL_lt {m n t : Nat} : ∀ {l : List Int}, (∀ x ∈ l, x.toNat < 24) → prL m n t l < 16777216 := by
  intro l
  unfold prL
  have : ∀ (l : List Int) (s : Nat), (∀ x ∈ l, x.toNat < 24) → s < 2 ^ 24 → l.foldl (fun s y => if m.testBit (y.toNat * t % n) = true then s ||| 2 ^ y.toNat else s) s < 2 ^ 24 := by
    intro l
    induction l with
    | nil => intro s _ h; exact h
    | cons y l ih =>
      intro s hl h
      apply ih _ (fun x hx => hl x (by simp [hx]))
      simp only
      split
      · exact Nat.or_lt_two_pow h (Nat.pow_lt_pow_right (by decide) (hl y (by simp)))
      · exact h
  intro h
  have := this l 0 h (by omega)
  simpa using this
/-- The best part by the multipliers 1 to k. -/
def bpT (m n : Nat) (l : List Int) : Nat → Nat
  | 0 => 0
  | k + 1 => better (bpT m n l k) (prL m n (k + 1) l)
theorem bpT_lt {m n : Nat} {l : List Int} (h : ∀ x ∈ l, x.toNat < 24) : ∀ k, bpT m n l k < 16777216
  | 0 => by simp [bpT]
  | k + 1 => better_lt (bpT_lt h k) (prL_lt h)
theorem popc_pos {a : Nat} (h : a < 2 ^ 40) (h0 : 0 < a) : 0 < popc a := by
  have := popc_low a a (Nat.le_refl _) h h0
  omega
def sfpB (os : List Int) (a : Int) : Bool := setB os a && decide (os.length = 1)
def sfpV (os : List Int) (a : Int) : Nat := if sfpB os a = true then bpT (mtTo (gn os) (gn os)) (gn os) (mems a.toNat) (gn os - 1) else 0


set_option maxRecDepth 20000 in
set_option maxHeartbeats 3200000 in
theorem sfp_impl (a0 : Option Addr) (c0 : Nat) (os : List Int) (a : Int) (w : World) (h0 : Ints w a0 c0 os) (hl : os.length ≤ 2000000) :
    Calls Try.prog 19 #[.agg #[.slice a0 os.length c0], .int .i64 a] w fun e w' => e = .returned (.tuple #[.int .i64 (sfpV os a : Int), .bool (sfpB os a)]) ∧ Below w.heap.size w w' := by
  have hb0 := (Below.refl w.heap.size w).alloc (Nat.le_refl _) (.cells #[.slice a0 os.length c0] 26)
  have h1 := h0.below hb0 (Nat.le_refl _)
  have C := Lib.hid (fun w h => isSet_impl a0 c0 os a w h hl)
  cases hs : setB os a with
  | false =>
    have e1 : sfpB os a = false := by simp [sfpB, hs]
    have e2 : sfpV os a = 0 := by simp [sfpV, e1]
    rw [e1, e2]
    rw [hs] at C
    clear hs e1 e2
    go_enter Try.func19, Try.ntmps19
    go_wp2_with fail
    refine (C.out _ h1).mono ?_; rintro e w1 ⟨rfl, b1⟩
    go_wp2_with fail
    go_ret2
    exact ⟨rfl, nx hb0 b1⟩
  | true =>
    rw [hs] at C
    by_cases hlen : os.length = 1
    · obtain ⟨hg0, m, rfl, hm⟩ := setB_parts hs
      obtain ⟨g2, g3, g4, g5, g6⟩ := grp_gn hg0
      have e1 : sfpB os (m : Int) = true := by simp [sfpB, hs, hlen]
      have e2 : sfpV os (m : Int) = bpT (mtTo (gn os) (gn os)) (gn os) (mems m) (gn os - 1) := by simp [sfpV, e1]
      rw [e1, e2]
      have C2 := Lib.hid (fun w h => orderOf_impl a0 c0 os w h hl)
      rw [show ordV os = gord os by simp [ordV, hg0], ← g5] at C2
      have C3 := Lib.hid (fun w h => mid_impl a0 c0 os w h hl)
      rw [show mtV os = (mtTo (gn os) (gn os) : Int) by simp [mtV, hg0, hlen]] at C3
      have hm' : m < 2 ^ gn os := by rw [← g6]; exact hm
      have hT := setT_bd hg0
      have CL := Lib.hid (members_any m (by omega))
      have CB := Lib.hid bits_any
      have CI := Lib.hid in_any
      have HM := Lib.hid (fun x (hx : x ∈ mems m) => mems_lt hm' hx)
      have hlen64 := mems_len m
      obtain ⟨l, hll⟩ : ∃ l, l = mems m := ⟨_, rfl⟩
      rw [← hll] at CL HM hlen64 ⊢
      have hM := mt24 (n := gn os) (k := gn os) g4
      obtain ⟨n, hn⟩ : ∃ n, n = gn os := ⟨_, rfl⟩
      rw [← hn] at C2 C3 HM g3 g4 hM ⊢
      have HX : Hid (∀ x ∈ l, 0 ≤ x ∧ x.toNat < 24) := Lib.hid (fun x hx => by have := HM.out x hx; omega)
      have HPL := Lib.hid (fun m n t k => prL_lt (m := m) (n := n) (t := t) (l := l.take k) (fun x hx => (HX.out x (List.mem_of_mem_take hx)).2))
      have HBT := Lib.hid (fun m n => bpT_lt (m := m) (n := n) (l := l) (fun x hx => (HX.out x hx).2))
      obtain ⟨M, hMM⟩ : ∃ M, M = mtTo n n := ⟨_, rfl⟩
      rw [← hMM] at C3 hM ⊢
      have hne : ((os.length : Int) != 1) = false := by simp; omega
      have hm24 : m < 16777216 := by omega
      clear hs hlen hm hm' hT e1 e2 hll hn hMM g2 g5 g6 hg0
      go_enter Try.func19, Try.ntmps19
      go_wp2_with fail
      refine (C.out _ h1).mono ?_; rintro e w1 ⟨rfl, b1⟩
      have q1 := box_cell b1 (by simp)
      have z1 : w.heap.size < w1.heap.size := by have := b1.size; simp at this; omega
      have h2 := h1.below b1 (Nat.le_refl _)
      have hb1 := nx hb0 b1
      go_wp2_with fail
      refine (C3.out _ h2).mono ?_; rintro e w2 ⟨rfl, b2⟩
      have q2 := (b2.cell (p := ⟨w.heap.size, 0, none⟩) z1).trans q1
      have z2 := Nat.lt_of_lt_of_le z1 b2.size
      have hb2 := nx hb1 b2
      clear b1 b2 q1 z1 h1 h2 hb0 hb1 C C3
      go_wp2_with fail
      go_loopw [6, 7, 9] (fun vb vs vt wr => ∃ (k : Nat) (s : Int), k + 1 ≤ n ∧ vt = .int .i64 ((k : Int) + 1) ∧ vb = .int .i64 ((bpT M n l k : Nat) : Int) ∧ vs = .int .i64 s ∧ -1 ≤ s ∧ s ≤ 64 ∧ Hid ((k = 0 ∧ s = -1) ∨ s = popc (bpT M n l k)) ∧ Below w.heap.size w wr ∧ wr.cell? ⟨w.heap.size, 0, none⟩ = some (.slice a0 os.length c0) ∧ w.heap.size < wr.heap.size) (fun _ _ x _ => (n + 1 - intOf x).toNat)
      case atStart => exact ⟨0, -1, by omega, rfl, by simp [bpT], rfl, by omega, by omega, Lib.hid (.inl ⟨rfl, rfl⟩), hb2, q2, z2⟩
      case round =>
        clear hb2 q2 z2
        obtain ⟨k, s, hk, rfl, rfl, rfl, hs1, hs2, HS, hbel, q3, z3⟩ := hrel
        have h3 := h0.below hbel (Nat.le_refl _)
        have hbl := HBT.out M n k
        by_cases hlt : k + 1 < n
        · have hltb : decide ((k : Int) + 1 < (n : Int)) = true := by simp; omega
          have hstp : bpT M n l (k + 1) = better (bpT M n l k) (prL M n (k + 1) l) := rfl
          obtain ⟨B, hB⟩ : ∃ B, B = bpT M n l k := ⟨_, rfl⟩
          rw [← hB] at hstp hbl HS ⊢
          have HSTP := Lib.hid hstp
          have HB0 := Lib.hid hB
          clear hstp hB
          go_wp2_with fail
          refine (C2.out _ h3).mono ?_; rintro e w3 ⟨rfl, b3⟩
          have hb3 := nx hbel b3
          have q4 := (b3.cell (p := ⟨w.heap.size, 0, none⟩) z3).trans q3
          have z4 := Nat.lt_of_lt_of_le z3 b3.size
          clear b3 q3 z3 h3 hbel
          go_wp2_with fail
          refine (CL.out _).mono ?_; rintro e w4 ⟨a1, c1, rfl, o1, b4⟩
          have hb4 := nx hb3 b4
          have q5 := (b4.cell (p := ⟨w.heap.size, 0, none⟩) z4).trans q4
          have z5 := Nat.lt_of_lt_of_le z4 b4.size
          obtain ⟨-, -, -, -, hcs⟩ := o1.ints
          have HCS := Lib.hid hcs
          clear b4 q4 z4 hb3 hcs
          go_wp2_with fail
          go_loopw [10, 34] (fun vp vi wr => ∃ (i p : Nat), i ≤ l.length ∧ vi = .int .i64 (i : Int) ∧ vp = .int .i64 (p : Int) ∧ p < 16777216 ∧ Hid (p = prL M n (k + 1) (l.take i)) ∧ Below w4.heap.size w4 wr) (fun _ x _ => (l.length - intOf x).toNat)
          case atStart => exact ⟨0, 0, by omega, rfl, rfl, by omega, Lib.hid (by simp [prL]), Below.refl _ _⟩
          case round =>
            obtain ⟨i, p, hi, rfl, rfl, hpl, HP, hbl4⟩ := hrel
            by_cases hli : i < l.length
            · rcases HCS.out with hcs | ⟨b, off, rfl, hbB, hcell⟩
              · subst hcs; simp at hli
              · have d1 := (hbl4.cell (p := ⟨b, off + i, none⟩) hbB).trans (hcell i hli)
                obtain ⟨x1, x2⟩ := HX.out _ (List.getElem_mem hli)
                obtain ⟨x, hx⟩ := Int.eq_ofNat_of_zero_le x1
                have hst := prL_take (m := M) (n := n) (t := k + 1) hli
                have hsl := HPL.out M n (k + 1) (i + 1)
                rw [hx] at d1 hst x2
                simp only [Int.toNat_natCast] at hst x2
                rw [← HP.out] at hst
                have hxk : x * (k + 1) ≤ 24 * 24 := Nat.mul_le_mul (by omega) (by omega)
                have em : (x : Int) * ((k : Int) + 1) = ((x * (k + 1) : Nat) : Int) := by push_cast; rfl
                obtain ⟨X, hX⟩ : ∃ X, X = x * (k + 1) := ⟨_, rfl⟩
                rw [← hX] at hst hxk em
                have er : (X : Int) % (n : Int) = ((X % n : Nat) : Int) := rfl
                have hY : X % n < n := Nat.mod_lt _ (by omega)
                obtain ⟨Y, hYY⟩ : ∃ Y, Y = X % n := ⟨_, rfl⟩
                rw [← hYY] at hst er hY
                obtain ⟨T, hT, hT1, hw, hor⟩ := or_one p x hpl x2
                rw [← hT] at hst
                have q6 := (hbl4.cell (p := ⟨w.heap.size, 0, none⟩) z5).trans q5
                have z6 := Nat.lt_of_lt_of_le z5 hbl4.size
                have h4 := h0.below (nx hb4 hbl4) (Nat.le_refl _)
                have hil : (i : Int) < l.length := by omega
                have zb : b < wr.heap.size := Nat.lt_of_lt_of_le hbB hbl4.size
                have CY := Lib.hid (CI.out M Y (by omega) (by omega))
                clear hcell hx hX hYY hT HP x1
                cases hbit : M.testBit Y with
                | true =>
                  rw [hbit, if_pos rfl] at hst
                  rw [hst] at hsl
                  have HST := Lib.hid hst
                  rw [hbit] at CY
                  clear hst hbit
                  go_wp2_with fail
                  refine (C2.out _ h4).mono ?_; rintro e w5 ⟨rfl, b5⟩
                  go_wp2_with fail
                  refine (CY.out _).mono ?_; rintro e w' ⟨rfl, rfl⟩
                  go_wp2_with fail
                  go_roundw
                  case rel => exact ⟨i + 1, p ||| T, by omega, by go_num, rfl, hsl, Lib.hid HST.out.symm, nx hbl4 b5⟩
                  case measure => simp [intOf]; omega
                | false =>
                  rw [hbit, if_neg (by simp)] at hst
                  have HST := Lib.hid hst
                  rw [hbit] at CY
                  clear hst hbit hsl
                  go_wp2_with fail
                  refine (C2.out _ h4).mono ?_; rintro e w5 ⟨rfl, b5⟩
                  go_wp2_with fail
                  refine (CY.out _).mono ?_; rintro e w' ⟨rfl, rfl⟩
                  go_wp2_with fail
                  go_roundw
                  case rel => exact ⟨i + 1, p, by omega, by go_num, rfl, hpl, Lib.hid HST.out.symm, nx hbl4 b5⟩
                  case measure => simp [intOf]; omega
            · obtain rfl : i = l.length := by omega
              have hp := HP.out
              rw [List.take_length] at hp
              rw [← hp] at HSTP
              have q6 := (hbl4.cell (p := ⟨w.heap.size, 0, none⟩) z5).trans q5
              have z6 := Nat.lt_of_lt_of_le z5 hbl4.size
              have hb6 := nx hb4 hbl4
              have CP := Lib.hid (CB.out p (by omega))
              have hpp := popc_le64 p
              have hcase : (s < (popc p : Int) ∧ bpT M n l (k + 1) = p) ∨ (¬ s < (popc p : Int) ∧ bpT M n l (k + 1) = B ∧ s = popc B) := by
                rw [HSTP.out]
                rcases HS.out with ⟨rfl, hs⟩ | hs
                · left
                  refine ⟨by omega, ?_⟩
                  have hB0 : B = 0 := by rw [HB0.out]; rfl
                  subst hB0
                  unfold better
                  rcases Nat.eq_zero_or_pos p with h | h
                  · subst h; simp
                  · rw [if_pos (by rw [popc_zero]; exact popc_pos (by omega) h)]
                · unfold better
                  by_cases h : popc B < popc p
                  · exact .inl ⟨by omega, if_pos h⟩
                  · exact .inr ⟨by omega, if_neg h, hs⟩
              obtain ⟨v, hv⟩ : ∃ v, v = popc p := ⟨_, rfl⟩
              rw [← hv] at CP hpp hcase
              have HV := Lib.hid hv
              clear hp HP hv HS HSTP HB0
              rcases hcase with ⟨hc, e⟩ | ⟨hc, e, hsb⟩
              · have hc' : decide (s < (v : Int)) = true := by simp; omega
                have HE := Lib.hid e
                clear e
                go_wp2_with fail
                refine (CP.out _).mono ?_; rintro e w' ⟨rfl, rfl⟩
                go_wp2_with fail
                refine (CP.out _).mono ?_; rintro e w' ⟨rfl, rfl⟩
                go_wp2_with fail
                go_roundw
                case rel => exact ⟨k + 1, v, by omega, by go_num, by rw [HE.out], rfl, by omega, by omega, Lib.hid (.inr (by rw [HE.out, HV.out])), hb6, q6, z6⟩
                case measure => simp [intOf]; omega
              · have hc' : decide (s < (v : Int)) = false := by simp; omega
                have HE := Lib.hid e
                have HSB := Lib.hid hsb
                clear e hsb
                go_wp2_with fail
                refine (CP.out _).mono ?_; rintro e w' ⟨rfl, rfl⟩
                go_wp2_with fail
                go_roundw
                case rel => exact ⟨k + 1, s, by omega, by go_num, by rw [HE.out], rfl, by omega, by omega, Lib.hid (.inr (by rw [HE.out]; exact HSB.out)), hb6, q6, z6⟩
                case measure => simp [intOf]; omega
        · obtain rfl : k = n - 1 := by omega
          have ek : ((n - 1 : Nat) : Int) + 1 = (n : Int) := by omega
          rw [ek]
          clear ek
          go_wp2_with fail
          refine (C2.out _ h3).mono ?_; rintro e w3 ⟨rfl, b3⟩
          go_wp2_with fail
          go_ret2
          exact ⟨rfl, nx hbel b3⟩
    · have e1 : sfpB os a = false := by simp [sfpB, hlen]
      have e2 : sfpV os a = 0 := by simp [sfpV, e1]
      rw [e1, e2]
      have hg0 := (setB_parts hs).1
      have hl3 := (grp_parts hg0).1
      have hne : ((os.length : Int) != 1) = true := by simp; omega
      clear hs e1 e2 hlen hg0
      go_enter Try.func19, Try.ntmps19
      go_wp2_with fail
      refine (C.out _ h1).mono ?_; rintro e w1 ⟨rfl, b1⟩
      have q1 := box_cell b1 (by simp)
      go_wp2_with fail
      go_ret2
      exact ⟨rfl, nx hb0 b1⟩

set_option maxRecDepth 20000 in
set_option maxHeartbeats 3200000 in
theorem sfp_spec (a0 : Option Addr) (c0 : Nat) (os : List Int) (a : Int) (w : World) (h0 : Ints w a0 c0 os) (hl : os.length ≤ 2000000) :
    Calls Try.prog 20 #[.agg #[.slice a0 os.length c0], .int .i64 a] w fun e w' => e = .returned (.tuple #[.int .i64 (sfpV os a : Int), .bool (sfpB os a)]) ∧ Below w.heap.size w w' := by
  have hb0 := (Below.refl w.heap.size w).alloc (Nat.le_refl _) (.cells #[.slice a0 os.length c0] 26)
  have h1 := h0.below hb0 (Nat.le_refl _)
  have C := Lib.hid (fun w h => isSet_spec a0 c0 os a w h hl)
  cases hs : setB os a with
  | false =>
    have e1 : sfpB os a = false := by simp [sfpB, hs]
    have e2 : sfpV os a = 0 := by simp [sfpV, e1]
    rw [e1, e2]
    rw [hs] at C
    clear hs e1 e2
    go_enter Try.func20, Try.ntmps20
    go_wp2_with fail
    refine (C.out _ h1).mono ?_; rintro e w1 ⟨rfl, b1⟩
    go_wp2_with fail
    go_ret2
    exact ⟨rfl, nx hb0 b1⟩
  | true =>
    rw [hs] at C
    by_cases hlen : os.length = 1
    · obtain ⟨hg0, m, rfl, hm⟩ := setB_parts hs
      obtain ⟨g2, g3, g4, g5, g6⟩ := grp_gn hg0
      have e1 : sfpB os (m : Int) = true := by simp [sfpB, hs, hlen]
      have e2 : sfpV os (m : Int) = bpT (mtTo (gn os) (gn os)) (gn os) (mems m) (gn os - 1) := by simp [sfpV, e1]
      rw [e1, e2]
      have C2 := Lib.hid (fun w h => l2Order_any a0 c0 os w h hg0)
      rw [← g5] at C2
      have C3 := Lib.hid (fun w h => mid_spec a0 c0 os w h hl)
      rw [show mtV os = (mtTo (gn os) (gn os) : Int) by simp [mtV, hg0, hlen]] at C3
      have hm' : m < 2 ^ gn os := by rw [← g6]; exact hm
      have hT := setT_bd hg0
      have CL := Lib.hid (l3List_any m (by omega))
      have CB := Lib.hid l3Bits_any
      
      have HM := Lib.hid (fun x (hx : x ∈ mems m) => mems_lt hm' hx)
      have hlen64 := mems_len m
      obtain ⟨l, hll⟩ : ∃ l, l = mems m := ⟨_, rfl⟩
      rw [← hll] at CL HM hlen64 ⊢
      have hM := mt24 (n := gn os) (k := gn os) g4
      obtain ⟨n, hn⟩ : ∃ n, n = gn os := ⟨_, rfl⟩
      rw [← hn] at C2 C3 HM g3 g4 hM ⊢
      have HX : Hid (∀ x ∈ l, 0 ≤ x ∧ x.toNat < 24) := Lib.hid (fun x hx => by have := HM.out x hx; omega)
      have HPL := Lib.hid (fun m n t k => prL_lt (m := m) (n := n) (t := t) (l := l.take k) (fun x hx => (HX.out x (List.mem_of_mem_take hx)).2))
      have HBT := Lib.hid (fun m n => bpT_lt (m := m) (n := n) (l := l) (fun x hx => (HX.out x hx).2))
      obtain ⟨M, hMM⟩ : ∃ M, M = mtTo n n := ⟨_, rfl⟩
      rw [← hMM] at C3 hM ⊢
      have hne : ((os.length : Int) != 1) = false := by simp; omega
      have hm24 : m < 16777216 := by omega
      clear hs hlen hm hm' hT e1 e2 hll hn hMM g2 g5 g6 hg0
      go_enter Try.func20, Try.ntmps20
      go_wp2_with fail
      refine (C.out _ h1).mono ?_; rintro e w1 ⟨rfl, b1⟩
      have q1 := box_cell b1 (by simp)
      have z1 : w.heap.size < w1.heap.size := by have := b1.size; simp at this; omega
      have h2 := h1.below b1 (Nat.le_refl _)
      have hb1 := nx hb0 b1
      go_wp2_with fail
      refine (C3.out _ h2).mono ?_; rintro e w2 ⟨rfl, b2⟩
      have q2 := (b2.cell (p := ⟨w.heap.size, 0, none⟩) z1).trans q1
      have z2 := Nat.lt_of_lt_of_le z1 b2.size
      have hb2 := nx hb1 b2
      clear b1 b2 q1 z1 h1 h2 hb0 hb1 C C3
      go_wp2_with fail
      go_loopw [6, 8] (fun vb vt wr => ∃ (k : Nat), k + 1 ≤ n ∧ vt = .int .i64 ((k : Int) + 1) ∧ vb = .int .i64 ((bpT M n l k : Nat) : Int) ∧ Below w.heap.size w wr ∧ wr.cell? ⟨w.heap.size, 0, none⟩ = some (.slice a0 os.length c0) ∧ w.heap.size < wr.heap.size) (fun _ x _ => (n + 1 - intOf x).toNat)
      case atStart => exact ⟨0, by omega, rfl, by simp [bpT], hb2, q2, z2⟩
      case round =>
        clear hb2 q2 z2
        obtain ⟨k, hk, rfl, rfl, hbel, q3, z3⟩ := hrel
        have h3 := h0.below hbel (Nat.le_refl _)
        have hbl := HBT.out M n k
        by_cases hlt : k + 1 < n
        · have hltb : decide ((k : Int) + 1 < (n : Int)) = true := by simp; omega
          have hstp : bpT M n l (k + 1) = better (bpT M n l k) (prL M n (k + 1) l) := rfl
          obtain ⟨B, hB⟩ : ∃ B, B = bpT M n l k := ⟨_, rfl⟩
          rw [← hB] at hstp hbl ⊢
          have HSTP := Lib.hid hstp
          clear hstp hB
          go_wp2_with fail
          refine (C2.out _ h3).mono ?_; rintro e w3 ⟨rfl, b3⟩
          have hb3 := nx hbel b3
          have q4 := (b3.cell (p := ⟨w.heap.size, 0, none⟩) z3).trans q3
          have z4 := Nat.lt_of_lt_of_le z3 b3.size
          clear b3 q3 z3 h3 hbel
          go_wp2_with fail
          refine (CL.out _).mono ?_; rintro e w4 ⟨a1, c1, rfl, o1, b4⟩
          have hb4 := nx hb3 b4
          have q5 := (b4.cell (p := ⟨w.heap.size, 0, none⟩) z4).trans q4
          have z5 := Nat.lt_of_lt_of_le z4 b4.size
          obtain ⟨-, -, -, -, hcs⟩ := o1.ints
          have HCS := Lib.hid hcs
          clear b4 q4 z4 hb3 hcs
          go_wp2_with fail
          go_loopw [9, 11] (fun vp vi wr => ∃ (i p : Nat), i ≤ l.length ∧ vi = .int .i64 (i : Int) ∧ vp = .int .i64 (p : Int) ∧ p < 16777216 ∧ Hid (p = prL M n (k + 1) (l.take i)) ∧ Below w4.heap.size w4 wr) (fun _ x _ => (l.length - intOf x).toNat)
          case atStart => exact ⟨0, 0, by omega, rfl, rfl, by omega, Lib.hid (by simp [prL]), Below.refl _ _⟩
          case round =>
            obtain ⟨i, p, hi, rfl, rfl, hpl, HP, hbl4⟩ := hrel
            by_cases hli : i < l.length
            · rcases HCS.out with hcs | ⟨b, off, rfl, hbB, hcell⟩
              · subst hcs; simp at hli
              · have d1 := (hbl4.cell (p := ⟨b, off + i, none⟩) hbB).trans (hcell i hli)
                obtain ⟨x1, x2⟩ := HX.out _ (List.getElem_mem hli)
                obtain ⟨x, hx⟩ := Int.eq_ofNat_of_zero_le x1
                have hst := prL_take (m := M) (n := n) (t := k + 1) hli
                have hsl := HPL.out M n (k + 1) (i + 1)
                rw [hx] at d1 hst x2
                simp only [Int.toNat_natCast] at hst x2
                rw [← HP.out] at hst
                have hxk : x * (k + 1) ≤ 24 * 24 := Nat.mul_le_mul (by omega) (by omega)
                have em : (x : Int) * ((k : Int) + 1) = ((x * (k + 1) : Nat) : Int) := by push_cast; rfl
                obtain ⟨X, hX⟩ : ∃ X, X = x * (k + 1) := ⟨_, rfl⟩
                rw [← hX] at hst hxk em
                have er : (X : Int) % (n : Int) = ((X % n : Nat) : Int) := rfl
                have hY : X % n < n := Nat.mod_lt _ (by omega)
                obtain ⟨Y, hYY⟩ : ∃ Y, Y = X % n := ⟨_, rfl⟩
                rw [← hYY] at hst er hY
                obtain ⟨T, hT, hT1, hw, hor⟩ := or_one p x hpl x2
                rw [← hT] at hst
                have q6 := (hbl4.cell (p := ⟨w.heap.size, 0, none⟩) z5).trans q5
                have z6 := Nat.lt_of_lt_of_le z5 hbl4.size
                have h4 := h0.below (nx hb4 hbl4) (Nat.le_refl _)
                have hil : (i : Int) < l.length := by omega
                have zb : b < wr.heap.size := Nat.lt_of_lt_of_le hbB hbl4.size
                have hbt := bit_is M Y (by omega)
                have r1 : IntKind.i64.wrap ((x : Int) * ((k : Int) + 1)) = (X : Int) := by rw [em, wrap_in (by omega) (by omega)]
                have r2 : (X : Int).tmod (n : Int) = (Y : Int) := by rw [Int.tmod_eq_emod_of_nonneg (by omega)]; exact er
                have r3 : IntKind.i64.wrap (Y : Int) = Y := wrap_in (by omega) (by omega)
                have r4 : ((n : Int) == 0) = false := by simp; omega
                have r5 : ¬ (n : Int) = 0 := by omega
                have r7 : ¬ n = 0 := by omega
                have r8 : IntKind.i64.wrap (X : Int) = X := wrap_in (by omega) (by omega)
                have r6 : IntKind.i64.wrap ((k : Int) + 1) = (k : Int) + 1 := wrap_in (by omega) (by omega)
                clear hcell hx hX hYY hT HP x1
                cases hbit : M.testBit Y with
                | true =>
                  rw [hbit, if_pos rfl] at hst
                  rw [hst] at hsl
                  have HST := Lib.hid hst
                  rw [hbit] at hbt
                  clear hst hbit
                  go_wp2_with fail
                  go_region_held3 (fun w' => w'.cell? ⟨w.heap.size, 0, none⟩ = some (.slice a0 os.length c0) ∧ w'.cell? ⟨b, off + i, none⟩ = some (.int .i64 (x : Int))) (exact ⟨by assumption, by assumption⟩) (first
                    | (go_at_call 174; refine (C2.out _ h4.drew).mono ?_; rintro e w5 ⟨rfl, b5⟩; have q7 := (b5.cell (p := ⟨w.heap.size, 0, none⟩) z6).trans q6; have d2 := (b5.cell (p := ⟨b, off + i, none⟩) zb).trans d1))
                  go_wp2_with fail
                  go_roundw
                  case rel => exact ⟨i + 1, p ||| T, by omega, by go_num, rfl, hsl, Lib.hid HST.out.symm, nx hbl4 (below_undrew b5)⟩
                  case measure => simp [intOf]; omega
                | false =>
                  rw [hbit, if_neg (by simp)] at hst
                  have HST := Lib.hid hst
                  rw [hbit] at hbt
                  clear hst hbit hsl
                  go_wp2_with fail
                  go_region_held3 (fun w' => w'.cell? ⟨w.heap.size, 0, none⟩ = some (.slice a0 os.length c0) ∧ w'.cell? ⟨b, off + i, none⟩ = some (.int .i64 (x : Int))) (exact ⟨by assumption, by assumption⟩) (first
                    | (go_at_call 174; refine (C2.out _ h4.drew).mono ?_; rintro e w5 ⟨rfl, b5⟩; have q7 := (b5.cell (p := ⟨w.heap.size, 0, none⟩) z6).trans q6; have d2 := (b5.cell (p := ⟨b, off + i, none⟩) zb).trans d1))
                  go_wp2_with fail
                  go_roundw
                  case rel => exact ⟨i + 1, p, by omega, by go_num, rfl, hpl, Lib.hid HST.out.symm, nx hbl4 (below_undrew b5)⟩
                  case measure => simp [intOf]; omega
            · obtain rfl : i = l.length := by omega
              have hp := HP.out
              rw [List.take_length] at hp
              rw [← hp] at HSTP
              have q6 := (hbl4.cell (p := ⟨w.heap.size, 0, none⟩) z5).trans q5
              have z6 := Nat.lt_of_lt_of_le z5 hbl4.size
              have hb6 := nx hb4 hbl4
              have CP := Lib.hid (CB.out p (by omega))
              have CQ := Lib.hid (CB.out B (by omega))
              have hcase : (popc B < popc p ∧ bpT M n l (k + 1) = p) ∨ (¬ popc B < popc p ∧ bpT M n l (k + 1) = B) := by
                rw [HSTP.out]
                unfold better
                by_cases h : popc B < popc p
                · exact .inl ⟨h, if_pos h⟩
                · exact .inr ⟨h, if_neg h⟩
              obtain ⟨v, hv⟩ : ∃ v, v = popc p := ⟨_, rfl⟩
              obtain ⟨u, hu⟩ : ∃ u, u = popc B := ⟨_, rfl⟩
              rw [← hv] at CP hcase
              rw [← hu] at CQ hcase
              clear hp HP hv hu HSTP
              rcases hcase with ⟨hc, e⟩ | ⟨hc, e⟩
              · have HE := Lib.hid e
                clear e
                go_wp2_with fail
                refine (CP.out _).mono ?_; rintro e w' ⟨rfl, rfl⟩
                go_wp2_with fail
                refine (CQ.out _).mono ?_; rintro e w' ⟨rfl, rfl⟩
                go_wp2_with fail
                go_roundw
                case rel => exact ⟨k + 1, by omega, by go_num, by rw [HE.out], hb6, q6, z6⟩
                case measure => simp [intOf]; omega
              · have HE := Lib.hid e
                clear e
                go_wp2_with fail
                refine (CP.out _).mono ?_; rintro e w' ⟨rfl, rfl⟩
                go_wp2_with fail
                refine (CQ.out _).mono ?_; rintro e w' ⟨rfl, rfl⟩
                go_wp2_with fail
                go_roundw
                case rel => exact ⟨k + 1, by omega, by go_num, by rw [HE.out], hb6, q6, z6⟩
                case measure => simp [intOf]; omega
        · obtain rfl : k = n - 1 := by omega
          have ek : ((n - 1 : Nat) : Int) + 1 = (n : Int) := by omega
          rw [ek]
          clear ek
          go_wp2_with fail
          refine (C2.out _ h3).mono ?_; rintro e w3 ⟨rfl, b3⟩
          go_wp2_with fail
          go_ret2
          exact ⟨rfl, nx hbel b3⟩
    · have e1 : sfpB os a = false := by simp [sfpB, hlen]
      have e2 : sfpV os a = 0 := by simp [sfpV, e1]
      rw [e1, e2]
      have hg0 := (setB_parts hs).1
      have hl3 := (grp_parts hg0).1
      have hne : ((os.length : Int) != 1) = true := by simp; omega
      clear hs e1 e2 hlen hg0
      go_enter Try.func20, Try.ntmps20
      go_wp2_with fail
      refine (C.out _ h1).mono ?_; rintro e w1 ⟨rfl, b1⟩
      have q1 := box_cell b1 (by simp)
      go_wp2_with fail
      go_ret2
      exact ⟨rfl, nx hb0 b1⟩
end Go.Proofs.Ytbidkjhgodkamaa
