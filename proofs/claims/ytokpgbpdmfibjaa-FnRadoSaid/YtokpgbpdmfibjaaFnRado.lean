/-
Solutions are solutions, columns add up to 0, and colorings by digits have no solution of one color where no sum of coefficients is divisible. No condition.
-/
import Derived.Test.YtokpgbpdmfibjaaDrw10
import Derived.Test.YtokpgbpdmfibjaaKep
import Derived.Test.YtokpgbpdmfibjaaSml
import Derived.Test.YtokpgbpdmfibjaaOpb
import Derived.Test.YtokpgbpdmfibjaaSmi
import Derived.Test.YtokpgbpdmfibjaaRaq
import Derived.Test.YtokpgbpdmfibjaaSlv8
import Derived.Test.YtokpgbpdmfibjaaZc
import Derived.Test.YtokpgbpdmfibjaaIsRegularEquation
import Derived.Test.YtokpgbpdmfibjaaRdo
import Derived.Test.YtokpgbpdmfibjaaDig
import Derived.Deep.CutRange
namespace Go.Proofs.Ytokpgbpdmfibjaa
open Go.ChangeShapes Go.RowKit
set_option linter.unusedVariables false
set_option linter.unusedSimpArgs false

theorem moL_len (c cs : List Int) : (moL c cs).length ≤ c.length := by
  unfold moL moF
  split
  · cases h : (solL c cs.length (fun _ _ => true) c.length []).find? (mono cs) with
    | none => simp
    | some z =>
      obtain ⟨t, rfl, h1, _⟩ := solL_mem (List.mem_of_find?_eq_some h)
      simp [h1]
  · simp
theorem cbv_12 {p : Nat} (h2 : 2 ≤ p) (h7 : p ≤ 7) : cbv (p : Int) 12 = cbd p 12 := by
  unfold cbv
  rw [if_pos ⟨inB_true.2 (by omega), by decide⟩]
  rfl
set_option maxRecDepth 20000 in
set_option maxHeartbeats 20000000 in
theorem walk_fnRado (a : Option Addr) (cap n : Nat) (w : World) (hb : BtS w a cap n) :
    Calls Try.prog 4 #[.slice a n cap] w fun e w' => e = .returned (.bool true) ∧ Below w.heap.size w w' := by
  by_cases hbig : 1048576 < n
  · have hbg : decide (1048576 < n) = true := by simpa using hbig
    have C0 := big_any a cap n w
    rw [hbg] at C0
    go_enter Try.func4, Try.ntmps4
    go_wp2_with fail
    refine C0.mono ?_; rintro e w1 ⟨rfl, b1⟩
    go_wp2_with fail
    go_ret
    exact ⟨rfl, b1⟩
  have hn : n ≤ 2000000 := by omega
  have hbg : decide (1048576 < n) = false := by simpa using hbig
  have C0 := Lib.hid (big_any a cap n w)
  rw [hbg] at C0
  have HB := Lib.hid hb
  clear hbg hbig hb
  go_enter Try.func4, Try.ntmps4
  go_wp2_with fail
  refine C0.out.mono ?_; rintro e v1 ⟨rfl, b⟩
  have BB := b
  clear C0 b
  go_wp2_with fail
  have g := HB.out.below BB (Nat.le_refl _)
  refine (dSolutions_any a cap n v1 g hn).mono ?_; rintro e v2 ⟨c, ac, cc, z, rfl, hcl, hz1, hz2, oc, b⟩
  have BB := nx BB b
  clear b g
  have pc := oc.ints
  clear oc
  have S1 := Lib.hid (fun w h => si_impl ac cc c z w h (by omega))
  have S2 := Lib.hid (fun w h => si_spec ac cc c z w h (by omega))
  have SR := Lib.hid (fun i (hi : i < (siL c z).length) => si_row (List.getElem_mem hi))
  have ZI := Lib.hid (fun w h => zc_impl ac cc c w h (by omega))
  have ZS := Lib.hid (fun w h => zc_spec ac cc c w h (by omega))
  have hLn : (siL c z).length ≤ 1000000 := by
    unfold siL
    split
    · rename_i hb
      simp only [siB, Bool.and_eq_true, inB_true] at hb
      have h1 := solL_len c z.toNat (fun _ _ => true) c.length []
      have h2 : z.toNat ^ c.length ≤ 8 ^ c.length := Nat.pow_le_pow_left (by omega) _
      have h3 : 8 ^ c.length ≤ 8 ^ 3 := Nat.pow_le_pow_right (by decide) (by omega)
      omega
    · simp
  have hLr : ∀ i, ((siL c z).getD i []).length ≤ 1000000 := by
    intro i
    by_cases hi : i < (siL c z).length
    · have e : (siL c z).getD i [] = (siL c z)[i] := by simp [List.getD, hi]
      rw [e]
      have := (si_row (List.getElem_mem hi)).2.1
      omega
    · have e : (siL c z).getD i [] = [] := by simp [List.getD, List.getElem?_eq_none (Nat.le_of_not_lt hi)]
      rw [e]; simp
  obtain ⟨L, hL⟩ : ∃ L, L = siL c z := ⟨_, rfl⟩
  obtain ⟨sb, hsb⟩ : ∃ b, b = siB c z := ⟨_, rfl⟩
  have HRW : Hid (∀ i, i < L.length → sb = true ∧ (L.getD i []).length = c.length ∧ lin c (L.getD i []) = 0 ∧ (∀ y ∈ L.getD i [], 1 ≤ y ∧ y ≤ 12) ∧ (∀ x ∈ c, -9 ≤ x ∧ x ≤ 9)) := Lib.hid (by
    intro i hi
    rw [hL] at hi
    have h := SR.out i hi
    have e : L.getD i [] = (siL c z)[i] := by rw [hL]; simp [List.getD, hi]
    rw [e, hsb]
    exact ⟨h.1, h.2.1, h.2.2.1, h.2.2.2.1, h.2.2.2.2.1⟩)
  rw [← hL, ← hsb] at S1 S2
  rw [← hL] at hLn hLr
  have SL := Lib.hid (fun a0 a1 c0 c1 us vs w h0 h1 => sameLists_refl a0 a1 c0 c1 L.length (fun i => L.getD i []) us vs w h0 h1 hLn hLr)
  have HSB := Lib.hid hsb
  have HLN := Lib.hid hLn
  clear hL hsb hLr hLn SR hz1 hz2
  go_wp2_with fail
  refine (S1.out _ pc).mono ?_; rintro e v3 ⟨a1, c1, vs1, rfl, o1, b⟩
  have BB := nx BB b
  have pc := pc.below b (Nat.le_refl _)
  clear b S1
  have r1 := o1.rd
  clear o1
  go_wp2_with fail
  refine (S2.out _ pc).mono ?_; rintro e v4 ⟨a2, c2, vs2, rfl, o2, b⟩
  have BB := nx BB b
  have pc := pc.below b (Nat.le_refl _)
  have r1 := r1.below b (Nat.le_refl _)
  clear b S2
  have r2 := o2.rd
  clear o2
  go_wp2_with fail
  refine (SL.out _ _ _ _ _ _ _ r1 r2).mono ?_; rintro e v5 ⟨rfl, b⟩
  have BB := nx BB b
  have pc := pc.below b (Nat.le_refl _)
  have r1 := r1.below b (Nat.le_refl _)
  have r2 := r2.below b (Nat.le_refl _)
  clear b SL
  clear r1
  go_wp2_with fail
  go_loopw [9] (fun vi wr => ∃ k : Nat, k ≤ L.length ∧ vi = .int .i64 (k : Int) ∧ Below w.heap.size w wr ∧ Ints wr ac cc c ∧ RdR wr a2 L.length (fun i => L.getD i []) vs2) (fun vi _ => L.length - (intOf vi).toNat)
  case atStart => exact ⟨0, by omega, rfl, BB, pc, r2⟩
  case round =>
    clear BB pc r2
    obtain ⟨k, hk, rfl, BB, pc, r2⟩ := hrel
    by_cases hlt : k < L.length
    · obtain ⟨hs, hrl, hlin, hrb, hcb⟩ := HRW.out k hlt
      have hki : (k : Int) < L.length := by omega
      have hln := HLN.out
      rcases r2.cells with hcs | ⟨b2, off2, rfl, hb2, hcell2⟩
      · omega
      obtain ⟨ai, ci, e1, i1⟩ := r2.row k hlt
      obtain ⟨ro, hro⟩ : ∃ r, r = L.getD k [] := ⟨_, rfl⟩
      rw [← hro] at hrl hlin hrb e1 i1
      have d2 := (hcell2 k hlt).trans e1
      have HLIN := Lib.hid hlin
      have HRB := Lib.hid hrb
      have HCB := Lib.hid hcb
      have HR2 := Lib.hid r2
      have HD2 := Lib.hid d2
      have HB2 := Lib.hid hb2
      clear hcell2 e1 hro hs hlin hrb hcb r2 d2 hb2
      go_wp2_with fail
      obtain ⟨wa, hwa⟩ : ∃ W, W = wr := ⟨_, rfl⟩
      subst hwa
      go_loopw [10, 11] (fun vs vj wr => ∃ j : Nat, j ≤ c.length ∧ vj = .int .i64 (j : Int) ∧ vs = .int .i64 (lin c (ro.take j)) ∧ ∃ q, wr = wa.drewN q) (fun _ vj _ => c.length - (intOf vj).toNat)
      case atStart => exact ⟨0, by omega, rfl, by rw [List.take_zero, lin_nil], 0, rfl⟩
      case round =>
        obtain ⟨j, hj, rfl, rfl, q, rfl⟩ := hrel
        by_cases hlj : j < c.length
        · have hji : (j : Int) < c.length := by omega
          have hjr : j < ro.length := by omega
          rcases pc.2.2.2.2 with h0 | ⟨bc, offc, rfl, hbc, hcc⟩
          · subst h0; simp at hlj
          rcases i1.2.2.2.2 with h0 | ⟨bi, offi, rfl, hbi, hci⟩
          · subst h0; simp at hjr
          have d1 : wa.cell? ⟨bc, offc + j, none⟩ = some (.int .i64 (c[j]'hlj)) := hcc j hlj
          have d3 : wa.cell? ⟨bi, offi + j, none⟩ = some (.int .i64 (ro[j]'hjr)) := hci j hjr
          have d2 : wa.cell? ⟨b2, off2 + k, none⟩ = some (.slice (some ⟨bi, offi, none⟩) ro.length ci) := HD2.out
          have ht := lin_take hlj hjr
          have hb1 := HCB.out _ (List.getElem_mem hlj)
          have hb3 := HRB.out _ (List.getElem_mem hjr)
          have hlb := lin_bd c (ro.take j) HCB.out (fun y hy => HRB.out y (List.mem_of_mem_take hy))
          rw [List.length_take, Nat.min_eq_left (Nat.le_of_lt hjr)] at hlb
          obtain ⟨x, hx⟩ : ∃ x, x = c[j]'hlj := ⟨_, rfl⟩
          obtain ⟨y, hy⟩ : ∃ y, y = ro[j]'hjr := ⟨_, rfl⟩
          rw [← hx] at d1 ht hb1
          rw [← hy] at d3 ht hb3
          have hp1 : x * y ≤ 9 * y := Int.mul_le_mul_of_nonneg_right hb1.2 (by omega)
          have hp2 : -9 * y ≤ x * y := Int.mul_le_mul_of_nonneg_right hb1.1 (by omega)
          obtain ⟨P, hP⟩ : ∃ P, P = x * y := ⟨_, rfl⟩
          rw [← hP] at ht hp1 hp2
          obtain ⟨s, hs⟩ : ∃ s, s = lin c (ro.take j) := ⟨_, rfl⟩
          obtain ⟨t, ht2⟩ : ∃ t, t = lin c (ro.take (j + 1)) := ⟨_, rfl⟩
          rw [← hs] at ht hlb ⊢
          rw [← ht2] at ht
          have hw1 : IntKind.i64.wrap (x * y) = P := by rw [← hP, IntKind.wrap_i64]; omega
          have hw2 : IntKind.i64.wrap P = P := by rw [IntKind.wrap_i64]; omega
          have hw3 : IntKind.i64.wrap (s + P) = t := by rw [IntKind.wrap_i64]; omega
          have HT2 := Lib.hid ht2
          have hjri : (j : Int) < ro.length := by omega
          clear ht hb1 hb3 hp1 hp2 hP hs ht2 hx hy hlb hcc hci
          go_wp2_with fail
          refine wp_region_quiet_lit (by kernel_rfl) (by kernel_rfl) ?_
          repeat (any_goals (first | go_big_quiet_step (fail) | quiet_step (fail)))
          refine wpQuiet_nil ?_
          intro _ hw'
          obtain ⟨nq, hw''⟩ := hw'
          subst hw''
          go_wp2_with fail
          go_roundw
          case rel => exact ⟨j + 1, by omega, by go_num, by rw [HT2.out], q + nq, by first | rfl | simp [World.drewN, Nat.add_assoc]⟩
          case measure => simp [intOf]; omega
        · obtain rfl : j = c.length := by omega
          have e : lin c (ro.take c.length) = 0 := by rw [← hrl, List.take_length]; exact HLIN.out
          rw [e]
          clear e
          go_wp2_with fail
          go_roundw
          case rel => exact ⟨k + 1, by omega, by go_num, below_drewN BB q, pc.drewNI q, HR2.out.drewNI q⟩
          case measure => simp [intOf]; omega
    · obtain rfl : k = L.length := by omega
      have hki : ¬ ((L.length : Int) < L.length) := by omega
      clear r2 HRW hki hk
      have ZQ := Lib.hid (zc_sum c)
      have IR := Lib.hid (fun w h => isReg_impl ac cc c w h (by omega))
      have hYl : (zcOf (zcF c)).length ≤ 64 := by
        cases zcF c with
        | none => simp [zcOf]
        | some m => exact mems_len m
      obtain ⟨Y, hY⟩ : ∃ Y, Y = zcOf (zcF c) := ⟨_, rfl⟩
      obtain ⟨yb, hyb⟩ : ∃ Y, Y = (zcF c).isSome := ⟨_, rfl⟩
      rw [← hY, ← hyb] at ZI ZS ZQ
      rw [← hyb] at IR
      rw [← hY] at hYl
      have CY := Lib.hid (fun a0 a1 c0 c1 w h0 h1 => sameInts_any a0 a1 c0 c1 Y Y w h0 h1 (by omega) (by omega))
      rw [show decide (Y = Y) = true by simp] at CY
      clear hY hyb
      go_wp2_with fail
      refine (ZI.out _ pc).mono ?_; rintro e v6 ⟨a3, c3, rfl, o3, b⟩
      have BB := nx BB b
      have pc := pc.below b (Nat.le_refl _)
      clear b ZI
      have p3 := o3.ints
      clear o3
      go_wp2_with fail
      refine (ZS.out _ pc).mono ?_; rintro e v7 ⟨a4, c4, rfl, o4, b⟩
      have BB := nx BB b
      have pc := pc.below b (Nat.le_refl _)
      have p3 := p3.below b (Nat.le_refl _)
      clear b ZS
      have p4 := o4.ints
      clear o4
      go_wp2_with fail
      refine (CY.out _ _ _ _ _ p3 p4).mono ?_; rintro e v8 ⟨rfl, b⟩
      have BB := nx BB b
      have pc := pc.below b (Nat.le_refl _)
      have p3 := p3.below b (Nat.le_refl _)
      have p4 := p4.below b (Nat.le_refl _)
      clear b CY
      clear p3
      go_wp2_with fail
      refine (IR.out _ pc).mono ?_; rintro e v9 ⟨rfl, b⟩
      have BB := nx BB b
      have pc := pc.below b (Nat.le_refl _)
      have p4 := p4.below b (Nat.le_refl _)
      clear b IR
      go_wp2_with fail
      go_loopw [16, 17] (fun vs vi wz => ∃ k : Nat, k ≤ Y.length ∧ vi = .int .i64 (k : Int) ∧ vs = .int .i64 (atS c (Y.take k)) ∧ wz = v9) (fun _ vi _ => Y.length - (intOf vi).toNat)
      case atStart => exact ⟨0, by omega, rfl, by simp [atS], rfl⟩
      case round =>
        obtain ⟨k, hk, rfl, rfl, rfl⟩ := hrel
        by_cases hlt : k < Y.length
        · obtain ⟨z1, z2, z3, z4⟩ := ZQ.out
          have hyt : yb = true := by
            cases hb : yb with
            | true => rfl
            | false => have := z4 hb; rw [this] at hlt; simp at hlt
          obtain ⟨z5, z6⟩ := z3 hyt
          have hy := z2 _ (List.getElem_mem hlt)
          have hat := atS_take (c := c) hlt
          have hbd := atS_bd c z6 (Y.take k)
          have hbd2 := atS_bd c z6 (Y.take (k + 1))
          simp only [List.length_take] at hbd hbd2
          rcases p4.2.2.2.2 with h0 | ⟨by_, offy, rfl, hby, hcy⟩
          · subst h0; simp at hlt
          have d1 := hcy k hlt
          obtain ⟨y, hyy⟩ : ∃ y, y = Y[k]'hlt := ⟨_, rfl⟩
          rw [← hyy] at d1 hy hat
          obtain ⟨m, rfl⟩ := Int.eq_ofNat_of_zero_le hy.1
          simp only [Int.toNat_natCast] at hy hat
          have hm := hy.2
          rcases pc.2.2.2.2 with h0 | ⟨bc, offc, rfl, hbc, hcc⟩
          · subst h0; simp at hm
          have d2 := hcc m hm
          rw [show c.getD m 0 = c[m] by simp [List.getD, hm]] at hat
          obtain ⟨x, hx⟩ : ∃ x, x = c[m]'hm := ⟨_, rfl⟩
          rw [← hx] at d2 hat
          obtain ⟨s, hs⟩ : ∃ s, s = atS c (Y.take k) := ⟨_, rfl⟩
          obtain ⟨t, ht⟩ : ∃ t, t = atS c (Y.take (k + 1)) := ⟨_, rfl⟩
          rw [← hs] at hat hbd ⊢
          rw [← ht] at hat hbd2
          have hw : IntKind.i64.wrap (s + x) = t := by rw [IntKind.wrap_i64]; omega
          have HT := Lib.hid ht
          have hki : (k : Int) < Y.length := by omega
          have hmi : (m : Int) < c.length := by omega
          clear hat hbd hbd2 hs ht hx hyy hy z1 z2 z3 z4 z5 z6 hyt hcy hcc
          go_wp2_with fail
          go_roundw
          case rel => exact ⟨k + 1, by omega, by go_num, by rw [HT.out], trivial⟩
          case measure => simp [intOf]; omega
        · obtain rfl : k = Y.length := by omega
          have e : atS c (Y.take Y.length) = 0 := by rw [List.take_length]; exact ZQ.out.1
          rw [e]
          clear e ZQ
          go_upto_if 136 with fail
          go_cut [] from 38 to 186 (fun wx => Below w.heap.size w wx)
          case first =>
            cases sb with
            | true =>
              have hsb := HSB.out
              simp only [siB] at hsb
              have heq : eqnB c = true := by
                cases h : eqnB c with
                | true => rfl
                | false => rw [h] at hsb; simp at hsb
              obtain ⟨e1, e2, e3⟩ := eqn_parts heq
              obtain ⟨e4, e5⟩ := eqn_bd heq
              have HB3 := Lib.hid e3
              obtain ⟨P2, hP2⟩ : ∃ T : Nat, T = 2 ^ c.length := ⟨_, rfl⟩
              have hP8 : P2 ≤ 8 := by rw [hP2]; exact Nat.pow_le_pow_right (n := 2) (by decide) hcl
              have hP1 : 1 ≤ P2 := by rw [hP2]; exact Nat.two_pow_pos _
              have hwP : IntKind.i64.wrap (2 ^ c.length) = (P2 : Int) := by rw [hP2, pow_wrap _ (by omega)]; simp
              have HRN : Hid (∀ p : Nat, prmB (p : Int) = true → p ≤ 7 → (∀ m : Nat, 1 ≤ m → m < P2 → ¬ (p : Int) ∣ csum c m c.length) → moB c (cbv (p : Int) 12) = false ∧ (cbv (p : Int) 12).length ≤ 100) := Lib.hid (by
                intro p hp hp7 h
                have hb := prm_bd hp
                have e : cbv (p : Int) 12 = cbd p 12 := cbv_12 (by omega) hp7
                rw [e]
                refine ⟨mo_none (rad_no hp (by intro h0; rw [h0] at e1; simp at e1) (fun m h1 h2 => ?_)), by simp [cbd]⟩
                rw [← csum_sub]
                exact h m h1 (by rw [hP2]; exact h2))
              have MO := Lib.hid (fun a1 c1 cs w h k hl => mo_impl ac cc c a1 c1 cs w h k (by omega) hl)
              have al := below_alloc wr (.cells #[.int .i64 2, .int .i64 3, .int .i64 5, .int .i64 7] 3)
              have pl := Ints.litL (w := wr) rfl [2, 3, 5, 7] (by decide) (by simp)
              obtain ⟨u0, hu0⟩ : ∃ W, W = wr.alloc (.cells #[.int .i64 2, .int .i64 3, .int .i64 5, .int .i64 7] 3) := ⟨_, rfl⟩
              have BB := nx BB al
              have pc := pc.below al (Nat.le_refl _)
              rw [← hu0] at BB pc
              obtain ⟨wz0, hwz0⟩ : ∃ z, z = wr.heap.size := ⟨_, rfl⟩
              have pl' : Ints u0 (some ⟨wz0, 0, none⟩) 4 [2, 3, 5, 7] := by rw [hu0, hwz0]; exact pl
              have HWZ := Lib.hid hwz0
              clear hwz0
              have HU0 := Lib.hid hu0
              clear al pl hu0 hsb heq e1 e2 e3 e4 e5 hP2
              go_wp2_with fail
              rw [← HU0.out, ← HWZ.out]
              go_loopw [19] (fun vi wq => ∃ i : Nat, i ≤ 4 ∧ vi = .int .i64 (i : Int) ∧ Below w.heap.size w wq ∧ Ints wq ac cc c ∧ Ints wq (some ⟨wz0, 0, none⟩) 4 [2, 3, 5, 7]) (fun vi _ => 4 - (intOf vi).toNat)
              case atStart => exact ⟨0, by omega, rfl, BB, pc, pl'⟩
              case round =>
                clear BB pc pl'
                obtain ⟨i, hi, rfl, BB, pc, pl⟩ := hrel
                by_cases hi4 : i < 4
                · have hii : (i : Int) < 4 := by omega
                  have dp : ∃ p : Nat, wr.cell? ⟨wz0, i, none⟩ = some (.int .i64 (p : Int)) ∧ prmB (p : Int) = true ∧ 2 ≤ p ∧ p ≤ 7 := by
                    rcases pl.2.2.2.2 with h0 | ⟨b, off, h1, h2, h3⟩
                    · cases h0
                    · simp only [Option.some.injEq, Addr.mk.injEq, and_true] at h1
                      obtain ⟨rfl, rfl⟩ := h1
                      have h4 := h3 i (by simpa using hi4)
                      rw [Nat.zero_add] at h4
                      match i, hi4, h4 with
                      | 0, _, h4 => exact ⟨2, h4, by decide, by omega, by omega⟩
                      | 1, _, h4 => exact ⟨3, h4, by decide, by omega, by omega⟩
                      | 2, _, h4 => exact ⟨5, h4, by decide, by omega, by omega⟩
                      | 3, _, h4 => exact ⟨7, h4, by decide, by omega, by omega⟩
                  obtain ⟨p, dp, hp, hp2, hp7⟩ := dp
                  have HP := Lib.hid hp
                  clear hp
                  go_wp2_with fail
                  obtain ⟨wp, hwp⟩ : ∃ W, W = wr := ⟨_, rfl⟩
                  subst hwp
                  go_loopw [21, 22] (fun vf vs wq => ∃ (s : Nat) (f : Bool), 1 ≤ s ∧ s ≤ P2 ∧ vs = .int .i64 (s : Int) ∧ vf = .bool f ∧ Hid (f = true → ∀ m, 1 ≤ m → m < s → ¬ (p : Int) ∣ csum c m c.length) ∧ wq = wp) (fun _ vs _ => P2 - (intOf vs).toNat)
                  case atStart => exact ⟨1, true, by omega, by omega, rfl, rfl, Lib.hid (fun _ m h1 h2 => absurd h1 (by omega)), rfl⟩
                  case round =>
                    obtain ⟨s, f, hs1, hs, rfl, rfl, HF, rfl⟩ := hrel
                    by_cases hsP : s < P2
                    · have hsi : (s : Int) < P2 := by omega
                      go_wp2_with fail
                      go_loopw [23, 24] (fun vt vk wq => ∃ j : Nat, j ≤ c.length ∧ vk = .int .i64 (j : Int) ∧ vt = .int .i64 (csum c s j) ∧ wq = wr) (fun _ vk _ => c.length - (intOf vk).toNat)
                      case atStart => exact ⟨0, by omega, rfl, by simp [csum], by first | rfl | trivial⟩
                      case round =>
                        obtain ⟨j, hj, rfl, rfl, rfl⟩ := hrel
                        by_cases hlt : j < c.length
                        · rcases pc.2.2.2.2 with hcs | ⟨b, off, rfl, hbB, hcell⟩
                          · subst hcs; simp at hlt
                          · have hget : c.getD j 0 = c[j] := by simp [List.getD, hlt]
                            have c2 := hcell j hlt
                            rw [← hget] at c2
                            have hs2 := csum_bd (m := s) HB3.out j hj
                            have hs3 := HB3.out j hlt
                            rw [← hget] at hs3
                            have hji : (j : Int) < c.length := by omega
                            cases ht : s.testBit j
                            · have hbt : (bits .and .i64 ((s : Int) / 2 ^ j) 1 == 1) = false := by rw [bit_is s j (by omega), ht]
                              have HS := Lib.hid (csum_no (xs := c) ht)
                              obtain ⟨t, ht⟩ : ∃ t, t = csum c s j := ⟨_, rfl⟩
                              rw [← ht] at HS ⊢
                              clear ht hs2 hs3 hcell hget c2
                              go_wp2_with fail
                              go_roundw
                              case rel => exact ⟨j + 1, by omega, by go_num, by rw [HS.out], by first | rfl | trivial⟩
                              case measure => simp [intOf]; omega
                            · have hbt : (bits .and .i64 ((s : Int) / 2 ^ j) 1 == 1) = true := by rw [bit_is s j (by omega), ht]
                              have HS := Lib.hid (csum_yes (xs := c) ht)
                              obtain ⟨x, hx⟩ : ∃ x, x = c.getD j 0 := ⟨_, rfl⟩
                              obtain ⟨t, ht⟩ : ∃ t, t = csum c s j := ⟨_, rfl⟩
                              rw [← hx] at c2 HS hs3
                              rw [← ht] at HS hs2 ⊢
                              have hs4 : -36 ≤ t ∧ t ≤ 36 := by omega
                              clear hx ht hs2 hcell hget
                              go_wp2_with fail
                              go_roundw
                              case rel => exact ⟨j + 1, by omega, by go_num, by rw [HS.out], by first | rfl | trivial⟩
                              case measure => simp [intOf]; omega
                        · obtain rfl : j = c.length := by omega
                          obtain ⟨t, ht⟩ : ∃ t, t = csum c s c.length := ⟨_, rfl⟩
                          have HT := Lib.hid ht
                          rw [← ht]
                          clear ht
                          have hp0 : ¬ p = 0 := by omega
                          obtain ⟨r, hr⟩ : ∃ r, r = t.tmod (p : Int) := ⟨_, rfl⟩
                          have hr2 := hr.symm
                          have HR := Lib.hid hr
                          clear hr
                          cases f with
                          | true =>
                            by_cases hd : r = 0
                            · have hdb : (r != 0) = false := by simpa using hd
                              go_wp2_with fail
                              go_roundw
                              case rel => exact ⟨s + 1, false, by omega, by omega, by go_num, rfl, Lib.hid (fun h => by cases h), by first | rfl | trivial⟩
                              case measure => simp [intOf]; omega
                            · have hdb : (r != 0) = true := by simpa using hd
                              have HD := Lib.hid hd
                              clear hd
                              go_wp2_with fail
                              go_roundw
                              case rel => exact ⟨s + 1, true, by omega, by omega, by go_num, rfl, Lib.hid (fun _ m h1 h2 => by
                                by_cases e : m = s
                                · subst e
                                  rw [← HT.out]
                                  intro hdv
                                  exact HD.out (by rw [HR.out]; exact Int.tmod_eq_zero_of_dvd hdv)
                                · exact HF.out rfl m h1 (by omega)), by first | rfl | trivial⟩
                              case measure => simp [intOf]; omega
                          | false =>
                            go_wp2_with fail
                            go_roundw
                            case rel => exact ⟨s + 1, false, by omega, by omega, by go_num, rfl, Lib.hid (fun h => by cases h), by first | rfl | trivial⟩
                            case measure => simp [intOf]; omega
                    · have hsi : ¬ (s : Int) < P2 := by omega
                      obtain rfl : s = P2 := by omega
                      cases f with
                      | false =>
                        go_wp2_with fail
                        go_roundw
                        case rel => exact ⟨i + 1, by omega, by go_num, BB, pc, pl⟩
                        case measure => simp [intOf]; omega
                      | true =>
                        obtain ⟨n1, n2⟩ := HRN.out p HP.out hp7 (HF.out rfl)
                        have CBD := Lib.hid (cbd_impl (p : Int) 12)
                        obtain ⟨cs, hcs⟩ : ∃ l, l = cbv (p : Int) 12 := ⟨_, rfl⟩
                        rw [← hcs] at CBD n1 n2
                        have N1 := Lib.hid n1
                        clear hcs n1
                        go_wp2_with fail
                        refine (CBD.out _).mono ?_; rintro e x1 ⟨a7, c7, rfl, o7, b⟩
                        have BB := nx BB b
                        have pc := pc.below b (Nat.le_refl _)
                        have pl := pl.below b (Nat.le_refl _)
                        have p7 := o7.ints
                        have MO7 := MO.out a7 c7 cs x1 pc p7 (by omega)
                        rw [N1.out] at MO7
                        have MO8 := Lib.hid MO7
                        clear MO7 b o7 CBD
                        go_wp2_with fail
                        refine MO8.out.mono ?_; rintro e x2 ⟨a8, c8, rfl, o8, b⟩
                        have BB := nx BB b
                        have pc := pc.below b (Nat.le_refl _)
                        have pl := pl.below b (Nat.le_refl _)
                        clear b o8 MO8
                        go_wp2_with fail
                        go_roundw
                        case rel => exact ⟨i + 1, by omega, by go_num, BB, pc, pl⟩
                        case measure => simp [intOf]; omega
                · have hii : ¬ (i : Int) < 4 := by omega
                  go_wp2_with fail
                  go_meet
                  exact BB
            | false =>
              go_wp2_with fail
              go_meet
              exact BB
          case rest =>
          have BB := hcut
          clear hcut
          go_wp2_with fail
          have g := HB.out.below BB (Nat.le_refl _)
          refine (dMono_any a cap n _ g hn).mono ?_; rintro e v11 ⟨d, x, ad, ax, cd, cx, rfl, hd, hx, od, ox, b⟩
          have BB := nx BB b
          clear b g
          have pd := od.ints
          have px := ox.ints
          clear od ox
          have M1 := Lib.hid (fun w h k => mo_impl ad cd d ax cx x w h k (by omega) (by omega))
          have M2 := Lib.hid (fun w h k => mo_spec ad cd d ax cx x w h k (by omega) (by omega))
          have MR := Lib.hid (@mo_row d x)
          have MN := Lib.hid (@mo_nil d x)
          have hml := moL_len d x
          obtain ⟨v, hv⟩ : ∃ v, v = moL d x := ⟨_, rfl⟩
          obtain ⟨vb, hvb⟩ : ∃ v, v = moB d x := ⟨_, rfl⟩
          rw [← hv] at M1 M2 MR MN hml
          rw [← hvb] at M1 M2 MR MN
          have CV := Lib.hid (fun a0 a1 c0 c1 w h0 h1 => sameInts_any a0 a1 c0 c1 v v w h0 h1 (by omega) (by omega))
          rw [show decide (v = v) = true by simp] at CV
          clear hv hvb
          go_wp2_with fail
          refine (M1.out _ pd px).mono ?_; rintro e v12 ⟨a5, c5, rfl, o5, b⟩
          have BB := nx BB b
          have pd := pd.below b (Nat.le_refl _)
          have px := px.below b (Nat.le_refl _)
          clear b M1
          have p5 := o5.ints
          clear o5
          go_wp2_with fail
          refine (M2.out _ pd px).mono ?_; rintro e v13 ⟨a6, c6, rfl, o6, b⟩
          have BB := nx BB b
          have pd := pd.below b (Nat.le_refl _)
          have px := px.below b (Nat.le_refl _)
          have p5 := p5.below b (Nat.le_refl _)
          clear b M2
          have p6 := o6.ints
          clear o6
          go_wp2_with fail
          refine (CV.out _ _ _ _ _ p5 p6).mono ?_; rintro e v14 ⟨rfl, b⟩
          have BB := nx BB b
          have pd := pd.below b (Nat.le_refl _)
          have px := px.below b (Nat.le_refl _)
          have p5 := p5.below b (Nat.le_refl _)
          have p6 := p6.below b (Nat.le_refl _)
          clear b CV
          clear p5 pd
          go_wp2_with fail
          go_loopw [33] (fun vi wq => ∃ k : Nat, k ≤ v.length ∧ vi = .int .i64 (k : Int) ∧ Below w.heap.size w wq ∧ Ints wq ax cx x ∧ Ints wq a6 c6 v) (fun vi _ => v.length - (intOf vi).toNat)
          case atStart => exact ⟨0, by omega, rfl, BB, px, p6⟩
          case round =>
            clear BB px p6
            obtain ⟨k, hk, rfl, BB, px, p6⟩ := hrel
            by_cases hlt : k < v.length
            · have hki : (k : Int) < v.length := by omega
              have h0i : (0 : Int) < v.length := by omega
              have hvt : vb = true := by
                cases h : vb with
                | true => rfl
                | false => have := MN.out h; rw [this] at hlt; simp at hlt
              obtain ⟨r1, r2⟩ := MR.out hvt
              have h0 : 0 < v.length := by omega
              have y1 := r1 _ (List.getElem_mem hlt)
              have y2 := r1 _ (List.getElem_mem h0)
              have y3 := r2 _ (List.getElem_mem hlt)
              have hh : v.headD 0 = v[0]'h0 := by
                cases v with
                | nil => simp at h0
                | cons a l => rfl
              rw [hh] at y3
              rcases p6.2.2.2.2 with hc | ⟨b6, of6, rfl, hb6, hc6⟩
              · rw [hc] at hlt; simp at hlt
              have d1 := hc6 k hlt
              have d0 := hc6 0 h0
              obtain ⟨A, hA⟩ : ∃ q, q = v[k]'hlt := ⟨_, rfl⟩
              obtain ⟨B, hB⟩ : ∃ q, q = v[0]'h0 := ⟨_, rfl⟩
              rw [← hA] at d1 y1 y3
              rw [← hB] at d0 y2 y3
              obtain ⟨m, hm⟩ := Int.eq_ofNat_of_zero_le (show 0 ≤ A - 1 by omega)
              obtain ⟨q, hq⟩ := Int.eq_ofNat_of_zero_le (show 0 ≤ B - 1 by omega)
              rw [hm, hq] at y3
              simp only [Int.toNat_natCast] at y3
              have hmx : m < x.length := by omega
              have hqx : q < x.length := by omega
              rcases px.2.2.2.2 with hc | ⟨bx, ofx, rfl, hbx, hcx⟩
              · rw [hc] at hmx; simp at hmx
              have e1 := hcx m hmx
              have e2 := hcx q hqx
              rw [show x[m] = x.getD m 0 by simp [List.getD, hmx]] at e1
              rw [show x[q] = x.getD q 0 by simp [List.getD, hqx], ← y3] at e2
              obtain ⟨u, hu⟩ : ∃ u, u = x.getD m 0 := ⟨_, rfl⟩
              rw [← hu] at e1 e2
              rw [Nat.add_zero] at d0
              have hw1 : IntKind.i64.wrap (A - 1) = (m : Int) := by rw [hm, IntKind.wrap_i64]; omega
              have hw2 : IntKind.i64.wrap (B - 1) = (q : Int) := by rw [hq, IntKind.wrap_i64]; omega
              have hmi : (m : Int) < x.length := by omega
              have hqi : (q : Int) < x.length := by omega
              clear hc6 hcx hu y1 y2 y3 hm hq hA hB hh r1 r2 hvt hmx hqx h0
              go_wp2_with fail
              refine wp_region_quiet_lit (by kernel_rfl) (by kernel_rfl) ?_
              repeat (any_goals (first | go_big_quiet_step (fail) | quiet_step (fail)))
              refine wpQuiet_nil ?_
              intro _ hw'
              obtain ⟨nq, hw''⟩ := hw'
              subst hw''
              go_wp2_with fail
              go_roundw
              case rel => exact ⟨k + 1, by omega, by go_num, below_drewN BB nq, px.drewNI nq, p6.drewNI nq⟩
              case measure => simp [intOf]; omega
            · obtain rfl : k = v.length := by omega
              clear px p6 MR MN
              go_wp2_with fail
              have g := HB.out.below BB (Nat.le_refl _)
              refine (dRadoN_any a cap n _ g hn).mono ?_; rintro e v15 ⟨f, af, cf, y, rfl, hfl, hy1, hy2, of_, b⟩
              have BB := nx BB b
              clear b g
              have pf := of_.ints
              clear of_
              have R1 := Lib.hid (fun w h => ra_impl af cf f y w h (by omega))
              have R2 := Lib.hid (fun w h => ra_spec af cf f y w h (by omega))
              obtain ⟨rv, hrv⟩ : ∃ r, r = raV f y := ⟨_, rfl⟩
              rw [← hrv] at R1 R2
              clear hrv
              go_wp2_with fail
              have g := HB.out.below BB (Nat.le_refl _)
              refine (dDigit_any a cap n _ g hn).mono ?_; rintro e v16 ⟨p, q, rfl, hp1, hp2, hq1, hq2, b⟩
              have BB := nx BB b
              have pf := pf.below b (Nat.le_refl _)
              clear b g
              have D1 := Lib.hid (cbd_impl p q)
              have D2 := Lib.hid (cbd_spec p q)
              have hdl : (cbv p q).length ≤ 2000000 := by
                unfold cbv
                split
                · rw [cbd_len]; omega
                · simp
              obtain ⟨dl, hdl2⟩ : ∃ l, l = cbv p q := ⟨_, rfl⟩
              rw [← hdl2] at D1 D2 hdl
              have CD := Lib.hid (fun a0 a1 c0 c1 w h0 h1 => sameInts_any a0 a1 c0 c1 dl dl w h0 h1 hdl hdl)
              rw [show decide (dl = dl) = true by simp] at CD
              clear hdl2
              go_wp2_with fail
              refine (R1.out _ pf).mono ?_; rintro e v17 ⟨rfl, b⟩
              have BB := nx BB b
              have pf := pf.below b (Nat.le_refl _)
              clear b R1
              go_wp2_with fail
              refine (R2.out _ pf).mono ?_; rintro e v18 ⟨rfl, b⟩
              have BB := nx BB b
              have pf := pf.below b (Nat.le_refl _)
              clear b R2
              clear pf
              go_wp2_with fail
              refine (D1.out _).mono ?_; rintro e v19 ⟨a7, c7, rfl, o7, b⟩
              have BB := nx BB b
              clear b D1
              have p7 := o7.ints
              clear o7
              go_wp2_with fail
              refine (D2.out _).mono ?_; rintro e v20 ⟨a8, c8, rfl, o8, b⟩
              have BB := nx BB b
              have p7 := p7.below b (Nat.le_refl _)
              clear b D2
              have p8 := o8.ints
              clear o8
              go_wp2_with fail
              refine (CD.out _ _ _ _ _ p7 p8).mono ?_; rintro e v21 ⟨rfl, b⟩
              have BB := nx BB b
              have p7 := p7.below b (Nat.le_refl _)
              have p8 := p8.below b (Nat.le_refl _)
              clear b CD
              go_wp2_with fail
              go_ret
              exact ⟨ret_bool (by simp), BB⟩

end Go.Proofs.Ytokpgbpdmfibjaa
