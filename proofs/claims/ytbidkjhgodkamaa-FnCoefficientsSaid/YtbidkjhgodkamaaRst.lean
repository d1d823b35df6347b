/-
Contracts of the reference's SumOfSets (all arguments) and RestrictedSum (two sets of a group: what it returns holds the sum of each two different elements). Conditions: at most 2000000 orders.
-/
import Derived.Test.YtbidkjhgodkamaaTab
import Derived.Test.YtbidkjhgodkamaaGct
import Derived.Test.YtbidkjhgodkamaaSfb
import Derived.Test.YtbidkjhgodkamaaDif
namespace Go.Proofs.Ytbidkjhgodkamaa
open Go.RowKit Go.ChangeShapes
set_option linter.unusedVariables false

/-- What SumOfSets returns. -/
def sosV (os : List Int) (a b : Int) : Int := if setB os a = true ∧ setB os b = true then (sumS os b.toNat a.toNat : Int) else -1
theorem sosV_of {os : List Int} {a b : Nat} (ha : setB os (a : Int) = true) (hb : setB os (b : Int) = true) : sosV os (a : Int) (b : Int) = (sumS os a b : Int) := by
  obtain ⟨m, h1, h2, h3, hg, h4, h5⟩ := setB_bd ha
  obtain ⟨k, h6, h7, h8, _, h9, h10⟩ := setB_bd hb
  unfold sosV
  rw [if_pos ⟨ha, hb⟩, Int.toNat_natCast, Int.toNat_natCast, sumS_comm]
set_option maxHeartbeats 1600000 in
theorem sos_spec (a0 : Option Addr) (c0 : Nat) (os : List Int) (a b : Int) (w : World) (h0 : Ints w a0 c0 os) (hl : os.length ≤ 2000000) :
    Calls Try.prog 62 #[.agg #[.slice a0 os.length c0], .int .i64 a, .int .i64 b] w fun e w' => e = .returned (.int .i64 (sosV os a b)) ∧ Below w.heap.size w w' := by
  have hb0 := (Below.refl w.heap.size w).alloc (Nat.le_refl _) (.cells #[.slice a0 os.length c0] 26)
  have h1 := h0.below hb0 (Nat.le_refl _)
  have CA := Lib.hid (fun w h => isSet_spec a0 c0 os a w h hl)
  have CB := Lib.hid (fun w h => isSet_spec a0 c0 os b w h hl)
  cases hsa : setB os a with
  | false =>
    rw [hsa] at CA
    have e : sosV os a b = -1 := by simp [sosV, hsa]
    rw [e]
    clear hsa e
    go_enter Try.func62, Try.ntmps62
    go_wp2_with fail
    refine (CA.out _ h1).mono ?_; rintro e w1 ⟨rfl, b1⟩
    go_wp2_with fail
    go_ret
    exact ⟨rfl, nx hb0 b1⟩
  | true =>
    rw [hsa] at CA
    cases hsb : setB os b with
    | false =>
      rw [hsb] at CB
      have e : sosV os a b = -1 := by simp [sosV, hsb]
      rw [e]
      clear hsa hsb e
      go_enter Try.func62, Try.ntmps62
      go_wp2_with fail
      refine (CA.out _ h1).mono ?_; rintro e w1 ⟨rfl, b1⟩
      have q1 := box_cell b1 (by simp)
      have h2 := h1.below b1 (Nat.le_refl _)
      have hb1 := nx hb0 b1
      clear b1 hb0 h1
      go_wp2_with fail
      refine (CB.out _ h2).mono ?_; rintro e w2 ⟨rfl, b2⟩
      go_wp2_with fail
      go_ret
      exact ⟨rfl, nx hb1 b2⟩
    | true =>
      rw [hsb] at CB
      have e : sosV os a b = (sumS os b.toNat a.toNat : Int) := by simp [sosV, hsa, hsb]
      rw [e]
      obtain ⟨m, rfl, -, k1, hg, -, -⟩ := setB_bd hsa
      obtain ⟨k, rfl, -, k2, -, -, -⟩ := setB_bd hsb
      simp only [Int.toNat_natCast]
      have CS := Lib.hid (fun w h => l4Sum_any a0 c0 os m k w h hg (by omega) (by omega))
      obtain ⟨r, hr⟩ : ∃ r, r = sumS os k m := ⟨_, rfl⟩
      rw [← hr] at CS ⊢
      clear hsa hsb e hr hg k1 k2
      go_enter Try.func62, Try.ntmps62
      go_wp2_with fail
      refine (CA.out _ h1).mono ?_; rintro e w1 ⟨rfl, b1⟩
      have q1' := box_cell b1 (by simp)
      have z1' : w.heap.size < w1.heap.size := by have := b1.size; simp at this; omega
      have h2' := h1.below b1 (Nat.le_refl _)
      have hb1' := nx hb0 b1
      clear b1 hb0 h1
      go_wp2_with fail
      refine (CB.out _ h2').mono ?_; rintro e w2 ⟨rfl, b2⟩
      have q2 := (b2.cell (p := ⟨w.heap.size, 0, none⟩) z1').trans q1'
      have h3 := h2'.below b2 (Nat.le_refl _)
      have hb2 := nx hb1' b2
      clear b2 q1' z1' h2' hb1'
      go_wp2_with fail
      refine (CS.out _ h3).mono ?_; rintro e w3 ⟨rfl, b3⟩
      go_wp2_with fail
      go_ret
      exact ⟨rfl, nx hb2 b3⟩

/-- s holds the sums of the first k elements of x and all of y, but for the equal ones. -/
def Cov (os x y : List Int) (k : Nat) (s : Nat) : Prop := ∀ i j, i < k → i < x.length → j < y.length → x.getD i 0 ≠ y.getD j 0 → s.testBit (gadd os (x.getD i 0).toNat (y.getD j 0).toNat) = true
/-- .. and those of element k and the first m of y. -/
def CovM (os x y : List Int) (k m : Nat) (s : Nat) : Prop := Cov os x y k s ∧ ∀ j, j < m → j < y.length → x.getD k 0 ≠ y.getD j 0 → s.testBit (gadd os (x.getD k 0).toNat (y.getD j 0).toNat) = true
theorem CovM.or {os x y : List Int} {k m s T : Nat} (h : CovM os x y k m s) : CovM os x y k m (s ||| T) := by
  refine ⟨fun i j h1 h2 h3 h4 => ?_, fun j h1 h2 h3 => ?_⟩
  · rw [Nat.testBit_or, h.1 i j h1 h2 h3 h4]; rfl
  · rw [Nat.testBit_or, h.2 j h1 h2 h3]; rfl
theorem CovM.skip {os x y : List Int} {k m s : Nat} (h : CovM os x y k m s) (e : x.getD k 0 = y.getD m 0) : CovM os x y k (m + 1) s := by
  refine ⟨h.1, fun j h1 h2 h3 => ?_⟩
  by_cases e2 : j = m
  · subst e2; exact absurd e h3
  · exact h.2 j (by omega) h2 h3
theorem CovM.take {os x y : List Int} {k m s z : Nat} (h : CovM os x y k m s) (e : z = gadd os (x.getD k 0).toNat (y.getD m 0).toNat) : CovM os x y k (m + 1) (s ||| 2 ^ z) := by
  refine ⟨h.or.1, fun j h1 h2 h3 => ?_⟩
  by_cases e2 : j = m
  · subst e2; rw [← e, Nat.testBit_or, Nat.testBit_two_pow_self]; simp
  · exact h.or.2 j (by omega) h2 h3
theorem CovM.next {os x y : List Int} {k s : Nat} (h : CovM os x y k y.length s) : Cov os x y (k + 1) s := by
  intro i j h1 h2 h3 h4
  by_cases e : i = k
  · subst e; exact h.2 j h3 h3 h4
  · exact h.1 i j (by omega) h2 h3 h4
set_option maxRecDepth 20000 in
set_option maxHeartbeats 3200000 in
theorem rst_spec (a0 : Option Addr) (c0 : Nat) (os : List Int) (a b : Nat) (w : World) (h0 : Ints w a0 c0 os) (hl : os.length ≤ 2000000) (hg0 : grpB os = true) (ha : a < setT os) (hb : b < setT os) :
    Calls Try.prog 133 #[.agg #[.slice a0 os.length c0], .int .i64 a, .int .i64 b] w fun e w' => ∃ s : Nat, e = .returned (.int .i64 (s : Int)) ∧ s < 2 ^ gn os ∧
      (∀ x y : Nat, a.testBit x = true → b.testBit y = true → x ≠ y → s.testBit (gadd os x y) = true) ∧ Below w.heap.size w w' := by
  have hb0 := (Below.refl w.heap.size w).alloc (Nat.le_refl _) (.cells #[.slice a0 os.length c0] 26)
  have h1 := h0.below hb0 (Nat.le_refl _)
  obtain ⟨g2, g3, g4, g5, g6⟩ := grp_gn hg0
  have hT := setT_bd hg0
  have hsa : setB os (a : Int) = true := by simp [setB, hg0]; omega
  have hsb : setB os (b : Int) = true := by simp [setB, hg0]; omega
  have CLA := Lib.hid (l3List_any a (by omega))
  have CLB := Lib.hid (l3List_any b (by omega))
  have HMA := Lib.hid (fun z (hz : z ∈ mems a) => mems_bd hz)
  have HMB := Lib.hid (fun z (hz : z ∈ mems b) => mems_bd hz)
  have hla := mems_len a
  have hlb := mems_len b
  have CA := Lib.hid (fun x y w h hx hy => l2Add_any a0 c0 os x y w h hg0 hx hy)
  have HZ := Lib.hid (fun x y => gadd_lt' g2 x y)
  have CSA := Lib.hid (fun w h => isSet_spec a0 c0 os (a : Int) w h hl)
  rw [hsa] at CSA
  have CSB := Lib.hid (fun w h => isSet_spec a0 c0 os (b : Int) w h hl)
  rw [hsb] at CSB
  have HF : Hid (∀ s, Cov os (mems a) (mems b) (mems a).length s → ∀ x y : Nat, a.testBit x = true → b.testBit y = true → x ≠ y → s.testBit (gadd os x y) = true) := Lib.hid (by
    intro s hs x y hx hy hne
    have hxm := (mems_mem (a := a) (x := (x : Int)) (by omega)).2 ⟨x, rfl, hx⟩
    have hym := (mems_mem (a := b) (x := (y : Int)) (by omega)).2 ⟨y, rfl, hy⟩
    obtain ⟨i, hi, ei⟩ := List.getElem_of_mem hxm
    obtain ⟨j, hj, ej⟩ := List.getElem_of_mem hym
    have e1 : (mems a).getD i 0 = (x : Int) := by simp [List.getD, hi, ei]
    have e2 : (mems b).getD j 0 = (y : Int) := by simp [List.getD, hj, ej]
    have := hs i j hi hi hj (by rw [e1, e2]; omega)
    rw [e1, e2] at this
    simpa using this)
  obtain ⟨la, hlaa⟩ : ∃ l, l = mems a := ⟨_, rfl⟩
  obtain ⟨lb, hlbb⟩ : ∃ l, l = mems b := ⟨_, rfl⟩
  rw [← hlaa] at CLA HMA hla HF
  rw [← hlbb] at CLB HMB hlb HF
  obtain ⟨n, hn⟩ : ∃ n, n = gn os := ⟨_, rfl⟩
  rw [← hn] at HZ g3 g4 ⊢
  have ha24 : a < 16777216 := by omega
  have hb24 : b < 16777216 := by omega
  clear hlaa hlbb hn g2 g5 g6 hg0 hsa hsb hT ha hb
  go_enter Try.func133, Try.ntmps133
  go_wp2_with fail
  refine (CSA.out _ h1).mono ?_; rintro e w1 ⟨rfl, b1⟩
  have q1' := box_cell b1 (by simp)
  have z1' : w.heap.size < w1.heap.size := by have := b1.size; simp at this; omega
  have h2' := h1.below b1 (Nat.le_refl _)
  have hb1' := nx hb0 b1
  clear b1 hb0 h1
  go_wp2_with fail
  refine (CSB.out _ h2').mono ?_; rintro e w1 ⟨rfl, b1⟩
  have q1 := (b1.cell (p := ⟨w.heap.size, 0, none⟩) z1').trans q1'
  have z1 := Nat.lt_of_lt_of_le z1' b1.size
  have hb1 := nx hb1' b1
  clear b1 q1' z1' h2' hb1'
  go_wp2_with fail
  refine (CLA.out _).mono ?_; rintro e w4 ⟨a1, c1, rfl, o4, b4⟩
  have q4 := (b4.cell (p := ⟨w.heap.size, 0, none⟩) z1).trans q1
  have z4 := Nat.lt_of_lt_of_le z1 b4.size
  have hb4 := nx hb1 b4
  have i4 := o4.ints
  clear q1 z1 hb1 b4 o4
  go_wp2_with fail
  refine (CLB.out _).mono ?_; rintro e w5 ⟨a2, c2, rfl, o5, b5⟩
  have q5 := (b5.cell (p := ⟨w.heap.size, 0, none⟩) z4).trans q4
  have z5 := Nat.lt_of_lt_of_le z4 b5.size
  have hb5 := nx hb4 b5
  have i4' := i4.below b5 (Nat.le_refl _)
  have i5 := o5.ints
  clear q4 z4 hb4 b5 o5 i4
  go_wp2_with fail
  go_loopw [7, 10] (fun vs vi wr => ∃ (k s : Nat), k ≤ la.length ∧ vi = .int .i64 (k : Int) ∧ vs = .int .i64 (s : Int) ∧ Hid (s < 2 ^ n) ∧ Hid (Cov os la lb k s) ∧ Ints wr a1 c1 la ∧ Ints wr a2 c2 lb ∧ Below w.heap.size w wr ∧ wr.cell? ⟨w.heap.size, 0, none⟩ = some (.slice a0 os.length c0) ∧ w.heap.size < wr.heap.size) (fun _ i _ => la.length - (intOf i).toNat)
  case atStart => exact ⟨0, 0, by omega, rfl, rfl, Lib.hid (Nat.two_pow_pos n), Lib.hid (fun i j h => absurd h (by omega)), i4', i5, hb5, q5, z5⟩
  case round =>
    clear hb5 q5 z5 i4' i5
    obtain ⟨k, s, hk, rfl, rfl, HS, HC, oa, ob, hbel, q3, z3⟩ := hrel
    by_cases hlt : k < la.length
    · have hltb : decide ((k : Int) < (la.length : Int)) = true := by simp; omega
      obtain ⟨x1, x2⟩ := HMA.out _ (List.getElem_mem hlt)
      obtain ⟨x, hx⟩ := Int.eq_ofNat_of_zero_le x1
      have hxd : la.getD k 0 = (x : Int) := by simp [List.getD, hlt, hx]
      have HXD := Lib.hid hxd
      have HX := Lib.hid hx
      have hx64 : x < 64 := by omega
      clear hx x1 x2 hxd
      go_wp2_with fail
      go_loopw [7, 11] (fun vs vj wr => ∃ (j s : Nat), j ≤ lb.length ∧ vj = .int .i64 (j : Int) ∧ vs = .int .i64 (s : Int) ∧ Hid (s < 2 ^ n) ∧ Hid (CovM os la lb k j s) ∧ Ints wr a1 c1 la ∧ Ints wr a2 c2 lb ∧ Below w.heap.size w wr ∧ wr.cell? ⟨w.heap.size, 0, none⟩ = some (.slice a0 os.length c0) ∧ w.heap.size < wr.heap.size) (fun _ i _ => lb.length - (intOf i).toNat)
      case atStart => exact ⟨0, s, by omega, rfl, rfl, HS, Lib.hid ⟨HC.out, fun j h => absurd h (by omega)⟩, oa, ob, hbel, q3, z3⟩
      case round =>
        clear hbel q3 z3 oa ob HS HC
        obtain ⟨j, s, hj, rfl, rfl, HS, HC, oa, ob, hbel, q3, z3⟩ := hrel
        by_cases hlj : j < lb.length
        · have hltb2 : decide ((j : Int) < (lb.length : Int)) = true := by simp; omega
          have hca := oa.2.2.2.2
          have hcs := ob.2.2.2.2
          rcases hca with hca | ⟨b1, off, rfl, hbB, hcella⟩
          · subst hca; simp at hlt
          rcases hcs with hcs | ⟨b2, off2, rfl, hbB2, hcell⟩
          · subst hcs; simp at hlj
          · have d1 := hcella k hlt
            rw [HX.out] at d1
            have d2 := hcell j hlj
            obtain ⟨y1, y2⟩ := HMB.out _ (List.getElem_mem hlj)
            obtain ⟨y, hy⟩ := Int.eq_ofNat_of_zero_le y1
            have hyd : lb.getD j 0 = (y : Int) := by simp [List.getD, hlj, hy]
            have HYD := Lib.hid hyd
            rw [hy] at d2
            have hy64 : y < 64 := by omega
            have hka : (k : Int) < la.length := by omega
            have hjb : (j : Int) < lb.length := by omega
            clear hcell hcella hy y1 hyd
            by_cases hxy : x = y
            · subst hxy
              have HN : Hid (CovM os la lb k (j + 1) s) := Lib.hid (HC.out.skip (by rw [HXD.out, HYD.out]))
              clear HC
              go_wp2_with fail
              refine wp_region_quiet_lit (by kernel_rfl) (by kernel_rfl) ?_
              repeat (any_goals (first | go_big_quiet_step (fail) | quiet_step (fail)))
              refine wpQuiet_nil ?_
              intro _ hw'
              obtain ⟨nq, hw''⟩ := hw'
              subst hw''
              go_wp2_with fail
              go_roundw
              case rel => exact ⟨j + 1, s, by omega, by go_num, rfl, HS, HN, oa, ob, below_drewN hbel _, q3, z3⟩
              case measure => simp [intOf]; omega
            · have CZ := Lib.hid (fun w h => CA.out x y w h (by omega) (by omega))
              have hz := HZ.out x y
              have HN := Lib.hid (fun z (hz : z = gadd os x y) => HC.out.take (z := z) (by rw [HXD.out, HYD.out, Int.toNat_natCast, Int.toNat_natCast]; exact hz))
              obtain ⟨z, hzz⟩ : ∃ z, z = gadd os x y := ⟨_, rfl⟩
              have HN2 := Lib.hid (HN.out z hzz)
              rw [← hzz] at CZ hz
              have hne : ((x : Int) != (y : Int)) = true := by simp; omega
              have hs24 : s < 16777216 := by
                have h1 := HS.out
                have h2 : 2 ^ n ≤ 2 ^ 24 := Nat.pow_le_pow_right (by decide) g4
                omega
              obtain ⟨T, hT, hTl, hw, hor⟩ := or_one s z hs24 (by omega)
              have hs2 : s ||| T < 2 ^ n := by
                rw [hT]
                exact Nat.or_lt_two_pow HS.out (Nat.pow_lt_pow_right (by decide) hz)
              rw [← hT] at HN2
              obtain ⟨S2, hS2⟩ : ∃ t, t = s ||| T := ⟨_, rfl⟩
              rw [← hS2] at hor hs2 HN2
              have HS2 := Lib.hid hs2
              have hz24 : z < 24 := by omega
              clear hT hS2 hzz HN HC hxy hs2
              go_wp2_with fail
              refine wp_region_quiet_lit (by kernel_rfl) (by kernel_rfl) ?_
              repeat (any_goals (first | go_big_quiet_step (fail) | quiet_step (fail)))
              refine wpQuiet_nil ?_
              intro _ hw'
              obtain ⟨nq, hw''⟩ := hw'
              subst hw''
              have hbel := below_drewN hbel nq
              have oaN : Ints (wr.drewN nq) (some ⟨b1, off, none⟩) c1 la := oa
              have obN : Ints (wr.drewN nq) (some ⟨b2, off2, none⟩) c2 lb := ob
              have qN : (wr.drewN nq).cell? ⟨w.heap.size, 0, none⟩ = some (.slice a0 os.length c0) := q3
              have dN1 : (wr.drewN nq).cell? ⟨b1, off + k, none⟩ = some (.int .i64 x) := d1
              have dN2 : (wr.drewN nq).cell? ⟨b2, off2 + j, none⟩ = some (.int .i64 y) := d2
              have zN : w.heap.size < (wr.drewN nq).heap.size := z3
              have hbB' : b1 < (wr.drewN nq).heap.size := hbB
              have hbB2' : b2 < (wr.drewN nq).heap.size := hbB2
              obtain ⟨u0, hu0⟩ : ∃ W, W = wr.drewN nq := ⟨_, rfl⟩
              rw [← hu0] at hbel oaN obN qN dN1 dN2 zN hbB' hbB2'
              have HU0 := Lib.hid hu0
              have h4 := h0.below hbel (Nat.le_refl _)
              clear hu0 oa ob q3 d1 d2 z3 hbB hbB2
              go_wp2_with fail
              rw [← HU0.out]
              go_region_held3 (fun w' => w'.cell? ⟨w.heap.size, 0, none⟩ = some (.slice a0 os.length c0) ∧ w'.cell? ⟨b1, off + k, none⟩ = some (.int .i64 x) ∧ w'.cell? ⟨b2, off2 + j, none⟩ = some (.int .i64 y)) (exact ⟨by assumption, by assumption, by assumption⟩) (first
                | (go_at_call 224; refine (CZ.out _ h4.drew).mono ?_; rintro e w6 ⟨rfl, b6⟩; have q6 := (b6.cell (p := ⟨w.heap.size, 0, none⟩) zN).trans qN; have d3 := (b6.cell (p := ⟨b1, off + k, none⟩) hbB').trans dN1; have d4 := (b6.cell (p := ⟨b2, off2 + j, none⟩) hbB2').trans dN2))
              have b6' := below_undrew b6
              have z6 : w.heap.size < w6.heap.size := Nat.lt_of_lt_of_le zN b6.size
              have hb6 := nx hbel b6'
              have oa6 := oaN.below b6' (Nat.le_refl _)
              have ob6 := obN.below b6' (Nat.le_refl _)
              clear b6 b6' hbel qN dN1 dN2 zN oaN obN h4 d3 d4 hbB' hbB2'
              go_wp2_with fail
              go_roundw
              case rel => exact ⟨j + 1, S2, by omega, by go_num, by first | rfl | (congr 1), HS2, HN2, oa6, ob6, hb6, q6, z6⟩
              case measure => simp [intOf]; omega
        · obtain rfl : j = lb.length := by omega
          have HE := Lib.hid HC.out.next
          clear HC
          go_wp2_with fail
          go_roundw
          case rel => exact ⟨k + 1, s, by omega, by go_num, rfl, HS, HE, oa, ob, hbel, q3, z3⟩
          case measure => simp [intOf]; omega
    · obtain rfl : k = la.length := by omega
      have HE := Lib.hid (HF.out s HC.out)
      clear HC HF oa ob
      go_wp2_with fail
      go_ret
      exact ⟨s, rfl, HS.out, HE.out, hbel⟩
end Go.Proofs.Ytbidkjhgodkamaa
