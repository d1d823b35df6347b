/-
Colorings that are told have no sums of one color, the numbers are known, and all longer ones have a sum. No condition.
-/
import Derived.Test.YtbidkjhgodkamaaDrw5
import Derived.Test.YtbidkjhgodkamaaOpb
import Derived.Test.YtbidkjhgodkamaaSmi
import Derived.Test.YtbidkjhgodkamaaShp
import Derived.Test.YtbidkjhgodkamaaSchurNumber
import Derived.Test.YtbidkjhgodkamaaIsSchurColoring
import Derived.Test.YtbidkjhgodkamaaCountColorings
namespace Go.Proofs.Ytbidkjhgodkamaa
open Go.ChangeShapes Go.RowKit
set_option linter.unusedVariables false

theorem lc_law {k : Int} (h : inB k 1 3 = true) : iscB (lgL k) k = true ∧ ((lgL k).length : Int) = [1, 4, 13].getD (k - 1).toNat 0 ∧ (lgL k).length ≤ 13 ∧ 1 ≤ ccv k (lgL k).length ∧ ccv k ((lgL k).length + 1) = 0 := by
  obtain ⟨⟨h1, h2⟩, h3, h4, h5, h6⟩ := lc_all h
  refine ⟨by unfold iscB; rw [h1, h2]; rfl, h3, h4, ?_, ?_⟩
  · unfold ccv
    rw [if_pos ⟨h, by rw [inB_true]; omega⟩, Int.toNat_natCast]
    exact h5
  · unfold ccv
    rw [if_pos ⟨h, by rw [inB_true]; omega⟩, show ((lgL k).length : Int) + 1 = (((lgL k).length + 1 : Nat) : Int) by omega, Int.toNat_natCast]
    exact h6
set_option maxRecDepth 20000 in
set_option maxHeartbeats 6400000 in
theorem walk_fnSchur (a : Option Addr) (cap n : Nat) (w : World) (hb : BtS w a cap n) :
    Calls Try.prog 7 #[.slice a n cap] w fun e w' => e = .returned (.bool true) ∧ Below w.heap.size w w' := by
  by_cases hbig : 1048576 < n
  · have hbg : decide (1048576 < n) = true := by simpa using hbig
    have C0 := big_any a cap n w
    rw [hbg] at C0
    go_enter Try.func7, Try.ntmps7
    go_wp2_with fail
    refine C0.mono ?_; rintro e w1 ⟨rfl, b1⟩
    go_wp2_with fail
    go_ret
    exact ⟨rfl, b1⟩
  have hn : n ≤ 2000000 := by omega
  have hbg : decide (1048576 < n) = false := by simpa using hbig
  have C0 := Lib.hid (big_any a cap n w)
  rw [hbg] at C0
  have HB := Lib.hid hb
  clear hbg hbig hb
  go_enter Try.func7, Try.ntmps7
  go_wp2_with fail
  refine C0.out.mono ?_; rintro e w1 ⟨rfl, b1⟩
  have B1 := b1
  have g1 := HB.out.below b1 (Nat.le_refl _)
  clear C0 b1
  go_wp2_with fail
  refine (dLongest_any a cap n w1 g1 hn).mono ?_; rintro e w2 ⟨k, rfl, hk1, hk2, b2⟩
  have B2 := nx B1 b2
  clear g1 B1 b2
  have LC := Lib.hid (@lc_law k)
  have CL1 := Lib.hid (lg_impl k)
  have CL2 := Lib.hid (lg_spec k)
  have HL := Lib.hid (lgL_len2 k)
  obtain ⟨r, hr⟩ : ∃ r, r = lgL k := ⟨_, rfl⟩
  obtain ⟨rb, hrb⟩ : ∃ r, r = inB k 1 3 := ⟨_, rfl⟩
  rw [← hr, ← hrb] at LC CL1 CL2
  rw [← hr] at HL
  have HRB := Lib.hid hrb
  clear hr hrb
  go_wp2_with fail
  refine (CL1.out _).mono ?_; rintro e w3 ⟨a3, c3, rfl, o3, b3⟩
  have B3 := nx B2 b3
  clear B2 b3
  go_wp2_with fail
  refine (CL2.out _).mono ?_; rintro e w4 ⟨a4, c4, rfl, o4, b4⟩
  have B4 := nx B3 b4
  have r3 := o3.ints.below b4 (Nat.le_refl _)
  have r4 := o4.ints
  have hl := HL.out
  have CS := sameInts_any a3 a4 c3 c4 r r w4 r3 r4 (by omega) (by omega)
  have hrr : decide (r = r) = true := by simp
  rw [hrr] at CS
  have CSH := Lib.hid CS
  clear hrr CS o3 o4 B3 b4 r3
  go_wp2_with fail
  refine CSH.out.mono ?_; rintro e w5 ⟨rfl, b5⟩
  have B5 := nx B4 b5
  have r5 := r4.below b5 (Nat.le_refl _)
  clear CSH r4 B4 b5
  obtain ⟨sv, hsv⟩ : ∃ s, s = snv k := ⟨_, rfl⟩
  have CN1 := Lib.hid (sn_impl k)
  have CN2 := Lib.hid (sn_spec k)
  rw [← hsv] at CN1 CN2
  clear hsv
  go_wp2_with fail
  refine (CN1.out _).mono ?_; rintro e w6 ⟨rfl, b6⟩
  have B6 := nx B5 b6
  have r6 := r5.below b6 (Nat.le_refl _)
  clear r5 B5 b6 CN1
  go_wp2_with fail
  refine (CN2.out _).mono ?_; rintro e w7 ⟨rfl, b7⟩
  have B7 := nx B6 b7
  have r7 := r6.below b7 (Nat.le_refl _)
  clear r6 B6 b7 CN2
  cases rb with
  | true =>
    obtain ⟨L1, L2, L3, L4, L5⟩ := LC.out rfl
    have CI := isSchur_impl a4 c4 r k w7 r7 (by omega)
    rw [L1] at CI
    have CIH := Lib.hid CI
    have hkb := inB_true.1 HRB.out.symm
    obtain ⟨q, rfl⟩ : ∃ q : Nat, k = 1 + (q : Int) := ⟨(k - 1).toNat, by omega⟩
    have hq : q = 0 ∨ q = 1 ∨ q = 2 := by omega
    have D8 : ∀ W : World, (W.alloc (.cells #[.int .i64 1, .int .i64 4, .int .i64 13] 3)).cell? ⟨W.heap.size, q, none⟩ = some (.int .i64 (r.length : Int)) := by
      intro W
      have hb := heap_alloc_new W (.cells #[.int .i64 1, .int .i64 4, .int .i64 13] 3)
      rw [L2]
      rcases hq with rfl | rfl | rfl <;> (simp only [World.cell?, hb]; rfl)
    have hw8 : IntKind.i64.wrap (1 + (q : Int) - 1) = (q : Int) := by rw [IntKind.wrap_i64]; omega
    have hw9 : IntKind.i64.wrap ((r.length : Int) + 1) = (r.length : Int) + 1 := by rw [IntKind.wrap_i64]; omega
    have hq3 : (q : Int) < 3 := by omega
    have CC1 := Lib.hid (cc_impl (1 + (q : Int)) (r.length : Int))
    have CC2 := Lib.hid (cc_impl (1 + (q : Int)) ((r.length : Int) + 1))
    rw [L5] at CC2
    obtain ⟨cv1, hcv1⟩ : ∃ c, c = ccv (1 + (q : Int)) (r.length : Int) := ⟨_, rfl⟩
    rw [← hcv1] at CC1 L4
    have DH := Lib.hid D8
    clear CI L1 LC HRB L2 L5 hcv1 D8 hq hkb
    go_wp2_with fail
    refine CIH.out.mono ?_; rintro e w8 ⟨rfl, b8⟩
    have B8 := nx B7 b8
    have r8 := r7.below b8 (Nat.le_refl _)
    have d8 := DH.out w8
    have al := (Below.refl w8.heap.size w8).alloc (Nat.le_refl _) (.cells #[.int .i64 1, .int .i64 4, .int .i64 13] 3)
    have B9 := nx B8 al
    clear CIH b8 r7 B7 B8 DH r8 al
    go_wp2_with fail
    refine (CC1.out _).mono ?_; rintro e w10 ⟨rfl, b10⟩
    have B10 := nx B9 b10
    clear d8 B9 b10
    go_wp2_with fail
    refine (CC2.out _).mono ?_; rintro e w11 ⟨rfl, b11⟩
    have B11 := nx B10 b11
    have g11 := HB.out.below B11 (Nat.le_refl _)
    clear B10 b11 CC1 CC2
    go_wp2_with fail
    refine (dIsSchur_any a cap n w11 g11 hn).mono ?_; rintro e v1 ⟨el, ae, ce, m, rfl, hel, hm, oe, c1⟩
    have D1 := nx B11 c1
    have e1 := oe.ints
    have h1 := HB.out.below D1 (Nat.le_refl _)
    have ST := Lib.hid (@sch_triple el)
    have S1 := Lib.hid (fun w h => sch_impl ae ce el w h (by omega))
    have S2 := Lib.hid (fun w h => sch_spec ae ce el w h (by omega))
    have IS := Lib.hid (fun w h => isSchur_impl ae ce el m w h (by omega))
    have IC1 := Lib.hid (fun w h => isColoring_impl ae ce el m w h (by omega))
    have IC2 := Lib.hid (fun w h => isColoring_spec ae ce el m w h (by omega))
    have SN := Lib.hid (schL_len el)
    obtain ⟨sl, hsl⟩ : ∃ s, s = schL el := ⟨_, rfl⟩
    have hie : iscB el m = (colB el m && !schB el) := rfl
    obtain ⟨sb, hsb⟩ : ∃ s, s = schB el := ⟨_, rfl⟩
    obtain ⟨cv, hcv⟩ : ∃ s, s = colB el m := ⟨_, rfl⟩
    rw [← hsl, ← hsb] at ST S1 S2
    rw [← hsl] at SN
    rw [← hsb, ← hcv] at hie
    rw [← hcv] at IC1 IC2
    rw [hie] at IS
    have hsn := SN.out
    have CS := Lib.hid (fun a0 a1 c0 c1 w h0 h1 => sameInts_any a0 a1 c0 c1 sl sl w h0 h1 (by omega) (by omega))
    have hss : decide (sl = sl) = true := by simp
    rw [hss] at CS
    clear g11 B11 c1 oe hsl hsb hcv hie hss SN hsn
    go_wp2_with fail
    refine (S1.out _ e1).mono ?_; rintro e v2 ⟨ax, cx, rfl, ox, c2⟩
    have D2 := nx D1 c2
    have e2 := e1.below c2 (Nat.le_refl _)
    have p2 := ox.ints
    clear e1 D1 c2 ox h1 S1
    go_wp2_with fail
    refine (S2.out _ e2).mono ?_; rintro e v3 ⟨ay, cy, rfl, oy, c3⟩
    have D3 := nx D2 c3
    have e3 := e2.below c3 (Nat.le_refl _)
    have p3 := p2.below c3 (Nat.le_refl _)
    have q3 := oy.ints
    have CSH := Lib.hid (CS.out _ _ _ _ _ p3 q3)
    clear e2 D2 c3 oy p2 S2 p3 CS
    go_wp2_with fail
    refine CSH.out.mono ?_; rintro e v4 ⟨rfl, c4⟩
    have D4 := nx D3 c4
    have e4 := e3.below c4 (Nat.le_refl _)
    have q4 := q3.below c4 (Nat.le_refl _)
    clear e3 D3 c4 q3 CSH
    go_wp2_with fail
    refine (IS.out _ e4).mono ?_; rintro e v5 ⟨rfl, c5⟩
    have D5 := nx D4 c5
    have e5 := e4.below c5 (Nat.le_refl _)
    have q5 := q4.below c5 (Nat.le_refl _)
    clear e4 D4 c5 q4 IS
    go_wp2_with fail
    refine (IC2.out _ e5).mono ?_; rintro e v6 ⟨rfl, rfl⟩
    have g5 := HB.out.below D5 (Nat.le_refl _)
    cases sb with
    | true =>
      cases cv with
      | true =>
        obtain ⟨z, x, rfl, z1, z2, x1, x2, k1, k2⟩ := ST.out rfl
        obtain ⟨p, rfl⟩ : ∃ p, x = p + 1 := ⟨x - 1, by omega⟩
        obtain ⟨s, rfl⟩ : ∃ s, z = p + s + 2 := ⟨z - p - 2, by omega⟩
        have hps : p ≤ s := by omega
        rw [show p + 1 - 1 = p by omega, show p + s + 2 - 1 = p + s + 1 by omega] at k1
        rw [show p + s + 2 - (p + 1) - 1 = s by omega, show p + s + 2 - 1 = p + s + 1 by omega] at k2
        have l1 : p + s + 1 < el.length := by omega
        rw [List.getElem?_eq_getElem l1, List.getElem?_eq_getElem (show p < el.length by omega)] at k1
        rw [List.getElem?_eq_getElem l1, List.getElem?_eq_getElem (show s < el.length by omega)] at k2
        have k1' : el[p] = el[p + s + 1] := by simpa using k1
        have k2' : el[s] = el[p + s + 1] := by simpa using k2
        have eX : (((p + 1 : Nat) : Int)) = (p : Int) + 1 := by omega
        have eY : ((p + s + 2 : Nat) : Int) - ((p : Int) + 1) = (s : Int) + 1 := by omega
        have eZ : ((p + s + 2 : Nat) : Int) = ((p + s + 1 : Nat) : Int) + 1 := by omega
        rw [eX, eY, eZ] at q5 ⊢
        obtain ⟨t, ht⟩ : ∃ t, t = p + s + 1 := ⟨_, rfl⟩
        simp only [← ht] at q5 k1' k2' l1 ⊢
        rcases e5.2.2.2.2 with h0 | ⟨b1, of1, rfl, hb1, d1⟩
        · exact absurd l1 (by rw [h0]; simp)
        rcases q5.2.2.2.2 with h0 | ⟨b2, of2, rfl, hb2, d2⟩
        · simp at h0
        have y0 := d2 0 (by simp)
        have y1 := d2 1 (by simp)
        have y2 := d2 2 (by simp)
        have z0 := d1 p (by omega)
        have z1' := d1 s (by omega)
        have z2' := d1 t (by omega)
        rw [k1'] at z0
        rw [k2'] at z1'
        obtain ⟨u, hu⟩ : ∃ u, u = el[t] := ⟨_, rfl⟩
        rw [← hu] at z0 z1' z2'
        simp only [List.getElem_cons_zero, List.getElem_cons_succ, Nat.add_zero] at y0 y1 y2
        have hw1 : IntKind.i64.wrap ((p : Int) + 1 + ((s : Int) + 1)) = (t : Int) + 1 := by rw [IntKind.wrap_i64]; omega
        have hw2 : IntKind.i64.wrap ((p : Int) + 1 - 1) = (p : Int) := by rw [IntKind.wrap_i64]; omega
        have hw3 : IntKind.i64.wrap ((s : Int) + 1 - 1) = (s : Int) := by rw [IntKind.wrap_i64]; omega
        have hw4 : IntKind.i64.wrap ((t : Int) + 1 - 1) = (t : Int) := by rw [IntKind.wrap_i64]; omega
        have hi1 : (p : Int) < el.length := by omega
        have hi2 : (s : Int) < el.length := by omega
        have hi3 : (t : Int) < el.length := by omega
        have hle : (p : Int) + 1 ≤ (s : Int) + 1 := by omega
        clear eX eY eZ ht hu k1 k2 k1' k2' d1 d2 z1 z2 x1 x2 hps ST q5 l1 hb1 hb2
        go_wp2_with fail
        refine wp_region_quiet_lit (by kernel_rfl) (by kernel_rfl) ?_
        repeat (any_goals (first | go_big_quiet_step (fail) | quiet_step (fail)))
        refine wpQuiet_nil ?_
        intro _ hw'
        obtain ⟨nq, hw''⟩ := hw'
        subst hw''
        have D7 := below_drewN D5 nq
        have e7' : Ints (v5.drewN nq) (some ⟨b1, of1, none⟩) ce el := e5
        have g7' : BtS (v5.drewN nq) a cap n := g5
        obtain ⟨v7, hv7⟩ : ∃ W, W = v5.drewN nq := ⟨_, rfl⟩
        rw [← hv7] at D7 e7' g7'
        have HV7 := Lib.hid hv7
        clear hv7 D5 e5 g5
        go_wp2_with fail
        rw [← HV7.out]
        refine (dCount_any a cap n v7 g7' hn).mono ?_; rintro e x1 ⟨f1, f2, rfl, hf1, hf2, hf3, hf4, c1⟩
        have E1 := nx D7 c1
        have h1 := HB.out.below E1 (Nat.le_refl _)
        have e3 := e7'.below c1 (Nat.le_refl _)
        clear D7 c1 e7' g7'
        go_wp2_with fail
        refine (dGroup_any a cap n x1 h1 hn).mono ?_; rintro e x2 ⟨os, ag, cg, hc, ah, ch, rfl, hos, hhc, og, oh, c2⟩
        have E2 := nx E1 c2
        have e4 := e3.below c2 (Nat.le_refl _)
        have al2 := (Below.refl x2.heap.size x2).alloc (Nat.le_refl _) (.cells #[.slice ag os.length cg] 26)
        have hbx := new_at (w := x2) (n := x2.heap.size) (o := .cells #[.slice ag os.length cg] 26) rfl
        have og3 := og.ints.below al2 (Nat.le_refl _)
        have oh3 := oh.ints.below al2 (Nat.le_refl _)
        have e5 := e4.below al2 (Nat.le_refl _)
        have E3 := nx E2 al2
        obtain ⟨x3, hx3⟩ : ∃ W, W = x2.alloc (.cells #[.slice ag os.length cg] 26) := ⟨_, rfl⟩
        rw [← hx3] at hbx og3 oh3 e5 E3
        have HX3 := Lib.hid hx3
        have GC := Lib.hid (fun w h k => gco_impl ag cg os ah ch hc w h k (by omega) (by omega))
        have GS := Lib.hid (fun w h k => gco_spec ag cg os ah ch hc w h k (by omega) (by omega))
        have GL := Lib.hid (@gc_schur os hc)
        have HI := Lib.hid (fun w h => isSchur_impl ah ch hc 4 w h (by omega))
        obtain ⟨gv, hgv⟩ : ∃ g, g = gcB os hc := ⟨_, rfl⟩
        rw [← hgv] at GC GS GL
        obtain ⟨iv, hiv⟩ : ∃ g, g = iscB hc 4 := ⟨_, rfl⟩
        have HIV : Hid (gv = true → os.length = 1 → iv = true) := Lib.hid (by
          intro k1 k2
          obtain ⟨s1, s2⟩ := GL.out k1 k2
          rw [hiv]; unfold iscB; rw [s1, s2]; rfl)
        rw [← hiv] at HI
        have CF1 := Lib.hid (cc_impl f1 f2)
        have CF2 := Lib.hid (cc_spec f1 f2)
        obtain ⟨fv, hfv⟩ : ∃ g, g = ccv f1 f2 := ⟨_, rfl⟩
        rw [← hfv] at CF1 CF2
        clear hgv hiv hfv hx3 GL og oh e4 E2 al2 c2 e3 E1 h1
        go_wp2_with fail
        rw [← HX3.out]
        refine (GC.out _ og3 oh3).mono ?_; rintro e x4 ⟨rfl, c4⟩
        have hb4 := one_below hbx c4 (Nat.le_refl _)
        have og4 := og3.below c4 (Nat.le_refl _)
        have oh4 := oh3.below c4 (Nat.le_refl _)
        have e6 := e5.below c4 (Nat.le_refl _)
        have E4 := nx E3 c4
        have q4 := cell_of_one hb4
        clear hbx og3 oh3 e5 E3 GC c4
        cases gv with
        | true =>
          by_cases ho1 : os.length = 1
          · have hiv := HIV.out rfl ho1
            rw [hiv] at HI
            have HIH := Lib.hid (HI.out _ oh4)
            have hos1 : ((os.length : Int) == 1) = true := by rw [ho1]; rfl
            clear HI HIV hiv ho1
            go_wp2_with fail
            refine HIH.out.mono ?_; rintro e x5 ⟨rfl, c5⟩
            have hb5 := one_below hb4 c5 (Nat.le_refl _)
            have og5 := og4.below c5 (Nat.le_refl _)
            have oh5 := oh4.below c5 (Nat.le_refl _)
            have e7 := e6.below c5 (Nat.le_refl _)
            have E5 := nx E4 c5
            have q5 := cell_of_one hb5
            clear hb4 og4 oh4 e6 E4 q4 c5 HIH
            go_wp2_with fail
            refine (CF1.out _).mono ?_; rintro e y1 ⟨rfl, c6⟩
            have hb6 := one_below hb5 c6 (Nat.le_refl _)
            have og6 := og5.below c6 (Nat.le_refl _)
            have oh6 := oh5.below c6 (Nat.le_refl _)
            have e8 := e7.below c6 (Nat.le_refl _)
            have E6 := nx E5 c6
            have q6 := cell_of_one hb6
            clear hb5 og5 oh5 e7 E5 q5 c6
            go_wp2_with fail
            refine (CF2.out _).mono ?_; rintro e y2 ⟨rfl, c7⟩
            have hb7 := one_below hb6 c7 (Nat.le_refl _)
            have og7 := og6.below c7 (Nat.le_refl _)
            have oh7 := oh6.below c7 (Nat.le_refl _)
            have e9 := e8.below c7 (Nat.le_refl _)
            have E7 := nx E6 c7
            have q7 := cell_of_one hb7
            clear hb6 og6 oh6 e8 E6 q6 c7
            go_wp2_with fail
            refine (GS.out _ og7 oh7).mono ?_; rintro e y3 ⟨rfl, c8⟩
            have e10 := e9.below c8 (Nat.le_refl _)
            have E8 := nx E7 c8
            clear hb7 og7 oh7 e9 E7 q7 c8
            go_wp2_with fail
            refine (IC1.out _ e10).mono ?_; rintro e y4 ⟨rfl, rfl⟩
            go_wp2_with fail
            refine (IC2.out _ e10).mono ?_; rintro e y5 ⟨rfl, rfl⟩
            go_wp2_with fail
            go_ret
            exact ⟨ret_bool (by simp), E8⟩
          · have hos1 : ((os.length : Int) == 1) = false := by rw [beq_eq_false_iff_ne]; omega
            clear HI HIV ho1
            go_wp2_with fail
            refine (CF1.out _).mono ?_; rintro e y1 ⟨rfl, c6⟩
            have hb6 := one_below hb4 c6 (Nat.le_refl _)
            have og6 := og4.below c6 (Nat.le_refl _)
            have oh6 := oh4.below c6 (Nat.le_refl _)
            have e8 := e6.below c6 (Nat.le_refl _)
            have E6 := nx E4 c6
            have q6 := cell_of_one hb6
            clear hb4 og4 oh4 e6 E4 q4 c6
            go_wp2_with fail
            refine (CF2.out _).mono ?_; rintro e y2 ⟨rfl, c7⟩
            have hb7 := one_below hb6 c7 (Nat.le_refl _)
            have og7 := og6.below c7 (Nat.le_refl _)
            have oh7 := oh6.below c7 (Nat.le_refl _)
            have e9 := e8.below c7 (Nat.le_refl _)
            have E7 := nx E6 c7
            have q7 := cell_of_one hb7
            clear hb6 og6 oh6 e8 E6 q6 c7
            go_wp2_with fail
            refine (GS.out _ og7 oh7).mono ?_; rintro e y3 ⟨rfl, c8⟩
            have e10 := e9.below c8 (Nat.le_refl _)
            have E8 := nx E7 c8
            clear hb7 og7 oh7 e9 E7 q7 c8
            go_wp2_with fail
            refine (IC1.out _ e10).mono ?_; rintro e y4 ⟨rfl, rfl⟩
            go_wp2_with fail
            refine (IC2.out _ e10).mono ?_; rintro e y5 ⟨rfl, rfl⟩
            go_wp2_with fail
            go_ret
            exact ⟨ret_bool (by simp), E8⟩
        | false =>
          clear HI HIV
          go_wp2_with fail
          refine (CF1.out _).mono ?_; rintro e y1 ⟨rfl, c6⟩
          have hb6 := one_below hb4 c6 (Nat.le_refl _)
          have og6 := og4.below c6 (Nat.le_refl _)
          have oh6 := oh4.below c6 (Nat.le_refl _)
          have e8 := e6.below c6 (Nat.le_refl _)
          have E6 := nx E4 c6
          have q6 := cell_of_one hb6
          clear hb4 og4 oh4 e6 E4 q4 c6
          go_wp2_with fail
          refine (CF2.out _).mono ?_; rintro e y2 ⟨rfl, c7⟩
          have hb7 := one_below hb6 c7 (Nat.le_refl _)
          have og7 := og6.below c7 (Nat.le_refl _)
          have oh7 := oh6.below c7 (Nat.le_refl _)
          have e9 := e8.below c7 (Nat.le_refl _)
          have E7 := nx E6 c7
          have q7 := cell_of_one hb7
          clear hb6 og6 oh6 e8 E6 q6 c7
          go_wp2_with fail
          refine (GS.out _ og7 oh7).mono ?_; rintro e y3 ⟨rfl, c8⟩
          have e10 := e9.below c8 (Nat.le_refl _)
          have E8 := nx E7 c8
          clear hb7 og7 oh7 e9 E7 q7 c8
          go_wp2_with fail
          refine (IC1.out _ e10).mono ?_; rintro e y4 ⟨rfl, rfl⟩
          go_wp2_with fail
          refine (IC2.out _ e10).mono ?_; rintro e y5 ⟨rfl, rfl⟩
          go_wp2_with fail
          go_ret
          exact ⟨ret_bool (by simp), E8⟩
      | false =>
        obtain ⟨z, x, rfl, z1, z2, x1, x2, k1, k2⟩ := ST.out rfl
        obtain ⟨p, rfl⟩ : ∃ p, x = p + 1 := ⟨x - 1, by omega⟩
        obtain ⟨s, rfl⟩ : ∃ s, z = p + s + 2 := ⟨z - p - 2, by omega⟩
        have hps : p ≤ s := by omega
        rw [show p + 1 - 1 = p by omega, show p + s + 2 - 1 = p + s + 1 by omega] at k1
        rw [show p + s + 2 - (p + 1) - 1 = s by omega, show p + s + 2 - 1 = p + s + 1 by omega] at k2
        have l1 : p + s + 1 < el.length := by omega
        rw [List.getElem?_eq_getElem l1, List.getElem?_eq_getElem (show p < el.length by omega)] at k1
        rw [List.getElem?_eq_getElem l1, List.getElem?_eq_getElem (show s < el.length by omega)] at k2
        have k1' : el[p] = el[p + s + 1] := by simpa using k1
        have k2' : el[s] = el[p + s + 1] := by simpa using k2
        have eX : (((p + 1 : Nat) : Int)) = (p : Int) + 1 := by omega
        have eY : ((p + s + 2 : Nat) : Int) - ((p : Int) + 1) = (s : Int) + 1 := by omega
        have eZ : ((p + s + 2 : Nat) : Int) = ((p + s + 1 : Nat) : Int) + 1 := by omega
        rw [eX, eY, eZ] at q5 ⊢
        obtain ⟨t, ht⟩ : ∃ t, t = p + s + 1 := ⟨_, rfl⟩
        simp only [← ht] at q5 k1' k2' l1 ⊢
        rcases e5.2.2.2.2 with h0 | ⟨b1, of1, rfl, hb1, d1⟩
        · exact absurd l1 (by rw [h0]; simp)
        rcases q5.2.2.2.2 with h0 | ⟨b2, of2, rfl, hb2, d2⟩
        · simp at h0
        have y0 := d2 0 (by simp)
        have y1 := d2 1 (by simp)
        have y2 := d2 2 (by simp)
        have z0 := d1 p (by omega)
        have z1' := d1 s (by omega)
        have z2' := d1 t (by omega)
        rw [k1'] at z0
        rw [k2'] at z1'
        obtain ⟨u, hu⟩ : ∃ u, u = el[t] := ⟨_, rfl⟩
        rw [← hu] at z0 z1' z2'
        simp only [List.getElem_cons_zero, List.getElem_cons_succ, Nat.add_zero] at y0 y1 y2
        have hw1 : IntKind.i64.wrap ((p : Int) + 1 + ((s : Int) + 1)) = (t : Int) + 1 := by rw [IntKind.wrap_i64]; omega
        have hw2 : IntKind.i64.wrap ((p : Int) + 1 - 1) = (p : Int) := by rw [IntKind.wrap_i64]; omega
        have hw3 : IntKind.i64.wrap ((s : Int) + 1 - 1) = (s : Int) := by rw [IntKind.wrap_i64]; omega
        have hw4 : IntKind.i64.wrap ((t : Int) + 1 - 1) = (t : Int) := by rw [IntKind.wrap_i64]; omega
        have hi1 : (p : Int) < el.length := by omega
        have hi2 : (s : Int) < el.length := by omega
        have hi3 : (t : Int) < el.length := by omega
        have hle : (p : Int) + 1 ≤ (s : Int) + 1 := by omega
        clear eX eY eZ ht hu k1 k2 k1' k2' d1 d2 z1 z2 x1 x2 hps ST q5 l1 hb1 hb2
        go_wp2_with fail
        refine wp_region_quiet_lit (by kernel_rfl) (by kernel_rfl) ?_
        repeat (any_goals (first | go_big_quiet_step (fail) | quiet_step (fail)))
        refine wpQuiet_nil ?_
        intro _ hw'
        obtain ⟨nq, hw''⟩ := hw'
        subst hw''
        have D7 := below_drewN D5 nq
        have e7' : Ints (v5.drewN nq) (some ⟨b1, of1, none⟩) ce el := e5
        have g7' : BtS (v5.drewN nq) a cap n := g5
        obtain ⟨v7, hv7⟩ : ∃ W, W = v5.drewN nq := ⟨_, rfl⟩
        rw [← hv7] at D7 e7' g7'
        have HV7 := Lib.hid hv7
        clear hv7 D5 e5 g5
        go_wp2_with fail
        rw [← HV7.out]
        refine (dCount_any a cap n v7 g7' hn).mono ?_; rintro e x1 ⟨f1, f2, rfl, hf1, hf2, hf3, hf4, c1⟩
        have E1 := nx D7 c1
        have h1 := HB.out.below E1 (Nat.le_refl _)
        have e3 := e7'.below c1 (Nat.le_refl _)
        clear D7 c1 e7' g7'
        go_wp2_with fail
        refine (dGroup_any a cap n x1 h1 hn).mono ?_; rintro e x2 ⟨os, ag, cg, hc, ah, ch, rfl, hos, hhc, og, oh, c2⟩
        have E2 := nx E1 c2
        have e4 := e3.below c2 (Nat.le_refl _)
        have al2 := (Below.refl x2.heap.size x2).alloc (Nat.le_refl _) (.cells #[.slice ag os.length cg] 26)
        have hbx := new_at (w := x2) (n := x2.heap.size) (o := .cells #[.slice ag os.length cg] 26) rfl
        have og3 := og.ints.below al2 (Nat.le_refl _)
        have oh3 := oh.ints.below al2 (Nat.le_refl _)
        have e5 := e4.below al2 (Nat.le_refl _)
        have E3 := nx E2 al2
        obtain ⟨x3, hx3⟩ : ∃ W, W = x2.alloc (.cells #[.slice ag os.length cg] 26) := ⟨_, rfl⟩
        rw [← hx3] at hbx og3 oh3 e5 E3
        have HX3 := Lib.hid hx3
        have GC := Lib.hid (fun w h k => gco_impl ag cg os ah ch hc w h k (by omega) (by omega))
        have GS := Lib.hid (fun w h k => gco_spec ag cg os ah ch hc w h k (by omega) (by omega))
        have GL := Lib.hid (@gc_schur os hc)
        have HI := Lib.hid (fun w h => isSchur_impl ah ch hc 4 w h (by omega))
        obtain ⟨gv, hgv⟩ : ∃ g, g = gcB os hc := ⟨_, rfl⟩
        rw [← hgv] at GC GS GL
        obtain ⟨iv, hiv⟩ : ∃ g, g = iscB hc 4 := ⟨_, rfl⟩
        have HIV : Hid (gv = true → os.length = 1 → iv = true) := Lib.hid (by
          intro k1 k2
          obtain ⟨s1, s2⟩ := GL.out k1 k2
          rw [hiv]; unfold iscB; rw [s1, s2]; rfl)
        rw [← hiv] at HI
        have CF1 := Lib.hid (cc_impl f1 f2)
        have CF2 := Lib.hid (cc_spec f1 f2)
        obtain ⟨fv, hfv⟩ : ∃ g, g = ccv f1 f2 := ⟨_, rfl⟩
        rw [← hfv] at CF1 CF2
        clear hgv hiv hfv hx3 GL og oh e4 E2 al2 c2 e3 E1 h1
        go_wp2_with fail
        rw [← HX3.out]
        refine (GC.out _ og3 oh3).mono ?_; rintro e x4 ⟨rfl, c4⟩
        have hb4 := one_below hbx c4 (Nat.le_refl _)
        have og4 := og3.below c4 (Nat.le_refl _)
        have oh4 := oh3.below c4 (Nat.le_refl _)
        have e6 := e5.below c4 (Nat.le_refl _)
        have E4 := nx E3 c4
        have q4 := cell_of_one hb4
        clear hbx og3 oh3 e5 E3 GC c4
        cases gv with
        | true =>
          by_cases ho1 : os.length = 1
          · have hiv := HIV.out rfl ho1
            rw [hiv] at HI
            have HIH := Lib.hid (HI.out _ oh4)
            have hos1 : ((os.length : Int) == 1) = true := by rw [ho1]; rfl
            clear HI HIV hiv ho1
            go_wp2_with fail
            refine HIH.out.mono ?_; rintro e x5 ⟨rfl, c5⟩
            have hb5 := one_below hb4 c5 (Nat.le_refl _)
            have og5 := og4.below c5 (Nat.le_refl _)
            have oh5 := oh4.below c5 (Nat.le_refl _)
            have e7 := e6.below c5 (Nat.le_refl _)
            have E5 := nx E4 c5
            have q5 := cell_of_one hb5
            clear hb4 og4 oh4 e6 E4 q4 c5 HIH
            go_wp2_with fail
            refine (CF1.out _).mono ?_; rintro e y1 ⟨rfl, c6⟩
            have hb6 := one_below hb5 c6 (Nat.le_refl _)
            have og6 := og5.below c6 (Nat.le_refl _)
            have oh6 := oh5.below c6 (Nat.le_refl _)
            have e8 := e7.below c6 (Nat.le_refl _)
            have E6 := nx E5 c6
            have q6 := cell_of_one hb6
            clear hb5 og5 oh5 e7 E5 q5 c6
            go_wp2_with fail
            refine (CF2.out _).mono ?_; rintro e y2 ⟨rfl, c7⟩
            have hb7 := one_below hb6 c7 (Nat.le_refl _)
            have og7 := og6.below c7 (Nat.le_refl _)
            have oh7 := oh6.below c7 (Nat.le_refl _)
            have e9 := e8.below c7 (Nat.le_refl _)
            have E7 := nx E6 c7
            have q7 := cell_of_one hb7
            clear hb6 og6 oh6 e8 E6 q6 c7
            go_wp2_with fail
            refine (GS.out _ og7 oh7).mono ?_; rintro e y3 ⟨rfl, c8⟩
            have e10 := e9.below c8 (Nat.le_refl _)
            have E8 := nx E7 c8
            clear hb7 og7 oh7 e9 E7 q7 c8
            go_wp2_with fail
            refine (IC1.out _ e10).mono ?_; rintro e y4 ⟨rfl, rfl⟩
            go_wp2_with fail
            refine (IC2.out _ e10).mono ?_; rintro e y5 ⟨rfl, rfl⟩
            go_wp2_with fail
            go_ret
            exact ⟨ret_bool (by simp), E8⟩
          · have hos1 : ((os.length : Int) == 1) = false := by rw [beq_eq_false_iff_ne]; omega
            clear HI HIV ho1
            go_wp2_with fail
            refine (CF1.out _).mono ?_; rintro e y1 ⟨rfl, c6⟩
            have hb6 := one_below hb4 c6 (Nat.le_refl _)
            have og6 := og4.below c6 (Nat.le_refl _)
            have oh6 := oh4.below c6 (Nat.le_refl _)
            have e8 := e6.below c6 (Nat.le_refl _)
            have E6 := nx E4 c6
            have q6 := cell_of_one hb6
            clear hb4 og4 oh4 e6 E4 q4 c6
            go_wp2_with fail
            refine (CF2.out _).mono ?_; rintro e y2 ⟨rfl, c7⟩
            have hb7 := one_below hb6 c7 (Nat.le_refl _)
            have og7 := og6.below c7 (Nat.le_refl _)
            have oh7 := oh6.below c7 (Nat.le_refl _)
            have e9 := e8.below c7 (Nat.le_refl _)
            have E7 := nx E6 c7
            have q7 := cell_of_one hb7
            clear hb6 og6 oh6 e8 E6 q6 c7
            go_wp2_with fail
            refine (GS.out _ og7 oh7).mono ?_; rintro e y3 ⟨rfl, c8⟩
            have e10 := e9.below c8 (Nat.le_refl _)
            have E8 := nx E7 c8
            clear hb7 og7 oh7 e9 E7 q7 c8
            go_wp2_with fail
            refine (IC1.out _ e10).mono ?_; rintro e y4 ⟨rfl, rfl⟩
            go_wp2_with fail
            refine (IC2.out _ e10).mono ?_; rintro e y5 ⟨rfl, rfl⟩
            go_wp2_with fail
            go_ret
            exact ⟨ret_bool (by simp), E8⟩
        | false =>
          clear HI HIV
          go_wp2_with fail
          refine (CF1.out _).mono ?_; rintro e y1 ⟨rfl, c6⟩
          have hb6 := one_below hb4 c6 (Nat.le_refl _)
          have og6 := og4.below c6 (Nat.le_refl _)
          have oh6 := oh4.below c6 (Nat.le_refl _)
          have e8 := e6.below c6 (Nat.le_refl _)
          have E6 := nx E4 c6
          have q6 := cell_of_one hb6
          clear hb4 og4 oh4 e6 E4 q4 c6
          go_wp2_with fail
          refine (CF2.out _).mono ?_; rintro e y2 ⟨rfl, c7⟩
          have hb7 := one_below hb6 c7 (Nat.le_refl _)
          have og7 := og6.below c7 (Nat.le_refl _)
          have oh7 := oh6.below c7 (Nat.le_refl _)
          have e9 := e8.below c7 (Nat.le_refl _)
          have E7 := nx E6 c7
          have q7 := cell_of_one hb7
          clear hb6 og6 oh6 e8 E6 q6 c7
          go_wp2_with fail
          refine (GS.out _ og7 oh7).mono ?_; rintro e y3 ⟨rfl, c8⟩
          have e10 := e9.below c8 (Nat.le_refl _)
          have E8 := nx E7 c8
          clear hb7 og7 oh7 e9 E7 q7 c8
          go_wp2_with fail
          refine (IC1.out _ e10).mono ?_; rintro e y4 ⟨rfl, rfl⟩
          go_wp2_with fail
          refine (IC2.out _ e10).mono ?_; rintro e y5 ⟨rfl, rfl⟩
          go_wp2_with fail
          go_ret
          exact ⟨ret_bool (by simp), E8⟩
    | false =>
      clear ST q5
      cases cv with
      | true =>
        have h15 : True := trivial
        go_wp2_with fail
        refine wp_region_quiet_lit (by kernel_rfl) (by kernel_rfl) ?_
        repeat (any_goals (first | go_big_quiet_step (fail) | quiet_step (fail)))
        refine wpQuiet_nil ?_
        intro _ hw'
        obtain ⟨nq, hw''⟩ := hw'
        subst hw''
        have D7 := below_drewN D5 nq
        have e7' : Ints (v5.drewN nq) ae ce el := e5
        have g7' : BtS (v5.drewN nq) a cap n := g5
        obtain ⟨v7, hv7⟩ : ∃ W, W = v5.drewN nq := ⟨_, rfl⟩
        rw [← hv7] at D7 e7' g7'
        have HV7 := Lib.hid hv7
        clear hv7 D5 e5 g5
        go_wp2_with fail
        rw [← HV7.out]
        refine (dCount_any a cap n v7 g7' hn).mono ?_; rintro e x1 ⟨f1, f2, rfl, hf1, hf2, hf3, hf4, c1⟩
        have E1 := nx D7 c1
        have h1 := HB.out.below E1 (Nat.le_refl _)
        have e3 := e7'.below c1 (Nat.le_refl _)
        clear D7 c1 e7' g7'
        go_wp2_with fail
        refine (dGroup_any a cap n x1 h1 hn).mono ?_; rintro e x2 ⟨os, ag, cg, hc, ah, ch, rfl, hos, hhc, og, oh, c2⟩
        have E2 := nx E1 c2
        have e4 := e3.below c2 (Nat.le_refl _)
        have al2 := (Below.refl x2.heap.size x2).alloc (Nat.le_refl _) (.cells #[.slice ag os.length cg] 26)
        have hbx := new_at (w := x2) (n := x2.heap.size) (o := .cells #[.slice ag os.length cg] 26) rfl
        have og3 := og.ints.below al2 (Nat.le_refl _)
        have oh3 := oh.ints.below al2 (Nat.le_refl _)
        have e5 := e4.below al2 (Nat.le_refl _)
        have E3 := nx E2 al2
        obtain ⟨x3, hx3⟩ : ∃ W, W = x2.alloc (.cells #[.slice ag os.length cg] 26) := ⟨_, rfl⟩
        rw [← hx3] at hbx og3 oh3 e5 E3
        have HX3 := Lib.hid hx3
        have GC := Lib.hid (fun w h k => gco_impl ag cg os ah ch hc w h k (by omega) (by omega))
        have GS := Lib.hid (fun w h k => gco_spec ag cg os ah ch hc w h k (by omega) (by omega))
        have GL := Lib.hid (@gc_schur os hc)
        have HI := Lib.hid (fun w h => isSchur_impl ah ch hc 4 w h (by omega))
        obtain ⟨gv, hgv⟩ : ∃ g, g = gcB os hc := ⟨_, rfl⟩
        rw [← hgv] at GC GS GL
        obtain ⟨iv, hiv⟩ : ∃ g, g = iscB hc 4 := ⟨_, rfl⟩
        have HIV : Hid (gv = true → os.length = 1 → iv = true) := Lib.hid (by
          intro k1 k2
          obtain ⟨s1, s2⟩ := GL.out k1 k2
          rw [hiv]; unfold iscB; rw [s1, s2]; rfl)
        rw [← hiv] at HI
        have CF1 := Lib.hid (cc_impl f1 f2)
        have CF2 := Lib.hid (cc_spec f1 f2)
        obtain ⟨fv, hfv⟩ : ∃ g, g = ccv f1 f2 := ⟨_, rfl⟩
        rw [← hfv] at CF1 CF2
        clear hgv hiv hfv hx3 GL og oh e4 E2 al2 c2 e3 E1 h1
        go_wp2_with fail
        rw [← HX3.out]
        refine (GC.out _ og3 oh3).mono ?_; rintro e x4 ⟨rfl, c4⟩
        have hb4 := one_below hbx c4 (Nat.le_refl _)
        have og4 := og3.below c4 (Nat.le_refl _)
        have oh4 := oh3.below c4 (Nat.le_refl _)
        have e6 := e5.below c4 (Nat.le_refl _)
        have E4 := nx E3 c4
        have q4 := cell_of_one hb4
        clear hbx og3 oh3 e5 E3 GC c4
        cases gv with
        | true =>
          by_cases ho1 : os.length = 1
          · have hiv := HIV.out rfl ho1
            rw [hiv] at HI
            have HIH := Lib.hid (HI.out _ oh4)
            have hos1 : ((os.length : Int) == 1) = true := by rw [ho1]; rfl
            clear HI HIV hiv ho1
            go_wp2_with fail
            refine HIH.out.mono ?_; rintro e x5 ⟨rfl, c5⟩
            have hb5 := one_below hb4 c5 (Nat.le_refl _)
            have og5 := og4.below c5 (Nat.le_refl _)
            have oh5 := oh4.below c5 (Nat.le_refl _)
            have e7 := e6.below c5 (Nat.le_refl _)
            have E5 := nx E4 c5
            have q5 := cell_of_one hb5
            clear hb4 og4 oh4 e6 E4 q4 c5 HIH
            go_wp2_with fail
            refine (CF1.out _).mono ?_; rintro e y1 ⟨rfl, c6⟩
            have hb6 := one_below hb5 c6 (Nat.le_refl _)
            have og6 := og5.below c6 (Nat.le_refl _)
            have oh6 := oh5.below c6 (Nat.le_refl _)
            have e8 := e7.below c6 (Nat.le_refl _)
            have E6 := nx E5 c6
            have q6 := cell_of_one hb6
            clear hb5 og5 oh5 e7 E5 q5 c6
            go_wp2_with fail
            refine (CF2.out _).mono ?_; rintro e y2 ⟨rfl, c7⟩
            have hb7 := one_below hb6 c7 (Nat.le_refl _)
            have og7 := og6.below c7 (Nat.le_refl _)
            have oh7 := oh6.below c7 (Nat.le_refl _)
            have e9 := e8.below c7 (Nat.le_refl _)
            have E7 := nx E6 c7
            have q7 := cell_of_one hb7
            clear hb6 og6 oh6 e8 E6 q6 c7
            go_wp2_with fail
            refine (GS.out _ og7 oh7).mono ?_; rintro e y3 ⟨rfl, c8⟩
            have e10 := e9.below c8 (Nat.le_refl _)
            have E8 := nx E7 c8
            clear hb7 og7 oh7 e9 E7 q7 c8
            go_wp2_with fail
            refine (IC1.out _ e10).mono ?_; rintro e y4 ⟨rfl, rfl⟩
            go_wp2_with fail
            refine (IC2.out _ e10).mono ?_; rintro e y5 ⟨rfl, rfl⟩
            go_wp2_with fail
            go_ret
            exact ⟨ret_bool (by simp), E8⟩
          · have hos1 : ((os.length : Int) == 1) = false := by rw [beq_eq_false_iff_ne]; omega
            clear HI HIV ho1
            go_wp2_with fail
            refine (CF1.out _).mono ?_; rintro e y1 ⟨rfl, c6⟩
            have hb6 := one_below hb4 c6 (Nat.le_refl _)
            have og6 := og4.below c6 (Nat.le_refl _)
            have oh6 := oh4.below c6 (Nat.le_refl _)
            have e8 := e6.below c6 (Nat.le_refl _)
            have E6 := nx E4 c6
            have q6 := cell_of_one hb6
            clear hb4 og4 oh4 e6 E4 q4 c6
            go_wp2_with fail
            refine (CF2.out _).mono ?_; rintro e y2 ⟨rfl, c7⟩
            have hb7 := one_below hb6 c7 (Nat.le_refl _)
            have og7 := og6.below c7 (Nat.le_refl _)
            have oh7 := oh6.below c7 (Nat.le_refl _)
            have e9 := e8.below c7 (Nat.le_refl _)
            have E7 := nx E6 c7
            have q7 := cell_of_one hb7
            clear hb6 og6 oh6 e8 E6 q6 c7
            go_wp2_with fail
            refine (GS.out _ og7 oh7).mono ?_; rintro e y3 ⟨rfl, c8⟩
            have e10 := e9.below c8 (Nat.le_refl _)
            have E8 := nx E7 c8
            clear hb7 og7 oh7 e9 E7 q7 c8
            go_wp2_with fail
            refine (IC1.out _ e10).mono ?_; rintro e y4 ⟨rfl, rfl⟩
            go_wp2_with fail
            refine (IC2.out _ e10).mono ?_; rintro e y5 ⟨rfl, rfl⟩
            go_wp2_with fail
            go_ret
            exact ⟨ret_bool (by simp), E8⟩
        | false =>
          clear HI HIV
          go_wp2_with fail
          refine (CF1.out _).mono ?_; rintro e y1 ⟨rfl, c6⟩
          have hb6 := one_below hb4 c6 (Nat.le_refl _)
          have og6 := og4.below c6 (Nat.le_refl _)
          have oh6 := oh4.below c6 (Nat.le_refl _)
          have e8 := e6.below c6 (Nat.le_refl _)
          have E6 := nx E4 c6
          have q6 := cell_of_one hb6
          clear hb4 og4 oh4 e6 E4 q4 c6
          go_wp2_with fail
          refine (CF2.out _).mono ?_; rintro e y2 ⟨rfl, c7⟩
          have hb7 := one_below hb6 c7 (Nat.le_refl _)
          have og7 := og6.below c7 (Nat.le_refl _)
          have oh7 := oh6.below c7 (Nat.le_refl _)
          have e9 := e8.below c7 (Nat.le_refl _)
          have E7 := nx E6 c7
          have q7 := cell_of_one hb7
          clear hb6 og6 oh6 e8 E6 q6 c7
          go_wp2_with fail
          refine (GS.out _ og7 oh7).mono ?_; rintro e y3 ⟨rfl, c8⟩
          have e10 := e9.below c8 (Nat.le_refl _)
          have E8 := nx E7 c8
          clear hb7 og7 oh7 e9 E7 q7 c8
          go_wp2_with fail
          refine (IC1.out _ e10).mono ?_; rintro e y4 ⟨rfl, rfl⟩
          go_wp2_with fail
          refine (IC2.out _ e10).mono ?_; rintro e y5 ⟨rfl, rfl⟩
          go_wp2_with fail
          go_ret
          exact ⟨ret_bool (by simp), E8⟩
      | false =>
        have h15 : True := trivial
        go_wp2_with fail
        refine wp_region_quiet_lit (by kernel_rfl) (by kernel_rfl) ?_
        repeat (any_goals (first | go_big_quiet_step (fail) | quiet_step (fail)))
        refine wpQuiet_nil ?_
        intro _ hw'
        obtain ⟨nq, hw''⟩ := hw'
        subst hw''
        have D7 := below_drewN D5 nq
        have e7' : Ints (v5.drewN nq) ae ce el := e5
        have g7' : BtS (v5.drewN nq) a cap n := g5
        obtain ⟨v7, hv7⟩ : ∃ W, W = v5.drewN nq := ⟨_, rfl⟩
        rw [← hv7] at D7 e7' g7'
        have HV7 := Lib.hid hv7
        clear hv7 D5 e5 g5
        go_wp2_with fail
        rw [← HV7.out]
        refine (dCount_any a cap n v7 g7' hn).mono ?_; rintro e x1 ⟨f1, f2, rfl, hf1, hf2, hf3, hf4, c1⟩
        have E1 := nx D7 c1
        have h1 := HB.out.below E1 (Nat.le_refl _)
        have e3 := e7'.below c1 (Nat.le_refl _)
        clear D7 c1 e7' g7'
        go_wp2_with fail
        refine (dGroup_any a cap n x1 h1 hn).mono ?_; rintro e x2 ⟨os, ag, cg, hc, ah, ch, rfl, hos, hhc, og, oh, c2⟩
        have E2 := nx E1 c2
        have e4 := e3.below c2 (Nat.le_refl _)
        have al2 := (Below.refl x2.heap.size x2).alloc (Nat.le_refl _) (.cells #[.slice ag os.length cg] 26)
        have hbx := new_at (w := x2) (n := x2.heap.size) (o := .cells #[.slice ag os.length cg] 26) rfl
        have og3 := og.ints.below al2 (Nat.le_refl _)
        have oh3 := oh.ints.below al2 (Nat.le_refl _)
        have e5 := e4.below al2 (Nat.le_refl _)
        have E3 := nx E2 al2
        obtain ⟨x3, hx3⟩ : ∃ W, W = x2.alloc (.cells #[.slice ag os.length cg] 26) := ⟨_, rfl⟩
        rw [← hx3] at hbx og3 oh3 e5 E3
        have HX3 := Lib.hid hx3
        have GC := Lib.hid (fun w h k => gco_impl ag cg os ah ch hc w h k (by omega) (by omega))
        have GS := Lib.hid (fun w h k => gco_spec ag cg os ah ch hc w h k (by omega) (by omega))
        have GL := Lib.hid (@gc_schur os hc)
        have HI := Lib.hid (fun w h => isSchur_impl ah ch hc 4 w h (by omega))
        obtain ⟨gv, hgv⟩ : ∃ g, g = gcB os hc := ⟨_, rfl⟩
        rw [← hgv] at GC GS GL
        obtain ⟨iv, hiv⟩ : ∃ g, g = iscB hc 4 := ⟨_, rfl⟩
        have HIV : Hid (gv = true → os.length = 1 → iv = true) := Lib.hid (by
          intro k1 k2
          obtain ⟨s1, s2⟩ := GL.out k1 k2
          rw [hiv]; unfold iscB; rw [s1, s2]; rfl)
        rw [← hiv] at HI
        have CF1 := Lib.hid (cc_impl f1 f2)
        have CF2 := Lib.hid (cc_spec f1 f2)
        obtain ⟨fv, hfv⟩ : ∃ g, g = ccv f1 f2 := ⟨_, rfl⟩
        rw [← hfv] at CF1 CF2
        clear hgv hiv hfv hx3 GL og oh e4 E2 al2 c2 e3 E1 h1
        go_wp2_with fail
        rw [← HX3.out]
        refine (GC.out _ og3 oh3).mono ?_; rintro e x4 ⟨rfl, c4⟩
        have hb4 := one_below hbx c4 (Nat.le_refl _)
        have og4 := og3.below c4 (Nat.le_refl _)
        have oh4 := oh3.below c4 (Nat.le_refl _)
        have e6 := e5.below c4 (Nat.le_refl _)
        have E4 := nx E3 c4
        have q4 := cell_of_one hb4
        clear hbx og3 oh3 e5 E3 GC c4
        cases gv with
        | true =>
          by_cases ho1 : os.length = 1
          · have hiv := HIV.out rfl ho1
            rw [hiv] at HI
            have HIH := Lib.hid (HI.out _ oh4)
            have hos1 : ((os.length : Int) == 1) = true := by rw [ho1]; rfl
            clear HI HIV hiv ho1
            go_wp2_with fail
            refine HIH.out.mono ?_; rintro e x5 ⟨rfl, c5⟩
            have hb5 := one_below hb4 c5 (Nat.le_refl _)
            have og5 := og4.below c5 (Nat.le_refl _)
            have oh5 := oh4.below c5 (Nat.le_refl _)
            have e7 := e6.below c5 (Nat.le_refl _)
            have E5 := nx E4 c5
            have q5 := cell_of_one hb5
            clear hb4 og4 oh4 e6 E4 q4 c5 HIH
            go_wp2_with fail
            refine (CF1.out _).mono ?_; rintro e y1 ⟨rfl, c6⟩
            have hb6 := one_below hb5 c6 (Nat.le_refl _)
            have og6 := og5.below c6 (Nat.le_refl _)
            have oh6 := oh5.below c6 (Nat.le_refl _)
            have e8 := e7.below c6 (Nat.le_refl _)
            have E6 := nx E5 c6
            have q6 := cell_of_one hb6
            clear hb5 og5 oh5 e7 E5 q5 c6
            go_wp2_with fail
            refine (CF2.out _).mono ?_; rintro e y2 ⟨rfl, c7⟩
            have hb7 := one_below hb6 c7 (Nat.le_refl _)
            have og7 := og6.below c7 (Nat.le_refl _)
            have oh7 := oh6.below c7 (Nat.le_refl _)
            have e9 := e8.below c7 (Nat.le_refl _)
            have E7 := nx E6 c7
            have q7 := cell_of_one hb7
            clear hb6 og6 oh6 e8 E6 q6 c7
            go_wp2_with fail
            refine (GS.out _ og7 oh7).mono ?_; rintro e y3 ⟨rfl, c8⟩
            have e10 := e9.below c8 (Nat.le_refl _)
            have E8 := nx E7 c8
            clear hb7 og7 oh7 e9 E7 q7 c8
            go_wp2_with fail
            refine (IC1.out _ e10).mono ?_; rintro e y4 ⟨rfl, rfl⟩
            go_wp2_with fail
            refine (IC2.out _ e10).mono ?_; rintro e y5 ⟨rfl, rfl⟩
            go_wp2_with fail
            go_ret
            exact ⟨ret_bool (by simp), E8⟩
          · have hos1 : ((os.length : Int) == 1) = false := by rw [beq_eq_false_iff_ne]; omega
            clear HI HIV ho1
            go_wp2_with fail
            refine (CF1.out _).mono ?_; rintro e y1 ⟨rfl, c6⟩
            have hb6 := one_below hb4 c6 (Nat.le_refl _)
            have og6 := og4.below c6 (Nat.le_refl _)
            have oh6 := oh4.below c6 (Nat.le_refl _)
            have e8 := e6.below c6 (Nat.le_refl _)
            have E6 := nx E4 c6
            have q6 := cell_of_one hb6
            clear hb4 og4 oh4 e6 E4 q4 c6
            go_wp2_with fail
            refine (CF2.out _).mono ?_; rintro e y2 ⟨rfl, c7⟩
            have hb7 := one_below hb6 c7 (Nat.le_refl _)
            have og7 := og6.below c7 (Nat.le_refl _)
            have oh7 := oh6.below c7 (Nat.le_refl _)
            have e9 := e8.below c7 (Nat.le_refl _)
            have E7 := nx E6 c7
            have q7 := cell_of_one hb7
            clear hb6 og6 oh6 e8 E6 q6 c7
            go_wp2_with fail
            refine (GS.out _ og7 oh7).mono ?_; rintro e y3 ⟨rfl, c8⟩
            have e10 := e9.below c8 (Nat.le_refl _)
            have E8 := nx E7 c8
            clear hb7 og7 oh7 e9 E7 q7 c8
            go_wp2_with fail
            refine (IC1.out _ e10).mono ?_; rintro e y4 ⟨rfl, rfl⟩
            go_wp2_with fail
            refine (IC2.out _ e10).mono ?_; rintro e y5 ⟨rfl, rfl⟩
            go_wp2_with fail
            go_ret
            exact ⟨ret_bool (by simp), E8⟩
        | false =>
          clear HI HIV
          go_wp2_with fail
          refine (CF1.out _).mono ?_; rintro e y1 ⟨rfl, c6⟩
          have hb6 := one_below hb4 c6 (Nat.le_refl _)
          have og6 := og4.below c6 (Nat.le_refl _)
          have oh6 := oh4.below c6 (Nat.le_refl _)
          have e8 := e6.below c6 (Nat.le_refl _)
          have E6 := nx E4 c6
          have q6 := cell_of_one hb6
          clear hb4 og4 oh4 e6 E4 q4 c6
          go_wp2_with fail
          refine (CF2.out _).mono ?_; rintro e y2 ⟨rfl, c7⟩
          have hb7 := one_below hb6 c7 (Nat.le_refl _)
          have og7 := og6.below c7 (Nat.le_refl _)
          have oh7 := oh6.below c7 (Nat.le_refl _)
          have e9 := e8.below c7 (Nat.le_refl _)
          have E7 := nx E6 c7
          have q7 := cell_of_one hb7
          clear hb6 og6 oh6 e8 E6 q6 c7
          go_wp2_with fail
          refine (GS.out _ og7 oh7).mono ?_; rintro e y3 ⟨rfl, c8⟩
          have e10 := e9.below c8 (Nat.le_refl _)
          have E8 := nx E7 c8
          clear hb7 og7 oh7 e9 E7 q7 c8
          go_wp2_with fail
          refine (IC1.out _ e10).mono ?_; rintro e y4 ⟨rfl, rfl⟩
          go_wp2_with fail
          refine (IC2.out _ e10).mono ?_; rintro e y5 ⟨rfl, rfl⟩
          go_wp2_with fail
          go_ret
          exact ⟨ret_bool (by simp), E8⟩
  | false =>
    have g7 := HB.out.below B7 (Nat.le_refl _)
    clear LC HRB r7
    go_wp2_with fail
    refine (dIsSchur_any a cap n w7 g7 hn).mono ?_; rintro e v1 ⟨el, ae, ce, m, rfl, hel, hm, oe, c1⟩
    have D1 := nx B7 c1
    have e1 := oe.ints
    have h1 := HB.out.below D1 (Nat.le_refl _)
    have ST := Lib.hid (@sch_triple el)
    have S1 := Lib.hid (fun w h => sch_impl ae ce el w h (by omega))
    have S2 := Lib.hid (fun w h => sch_spec ae ce el w h (by omega))
    have IS := Lib.hid (fun w h => isSchur_impl ae ce el m w h (by omega))
    have IC1 := Lib.hid (fun w h => isColoring_impl ae ce el m w h (by omega))
    have IC2 := Lib.hid (fun w h => isColoring_spec ae ce el m w h (by omega))
    have SN := Lib.hid (schL_len el)
    obtain ⟨sl, hsl⟩ : ∃ s, s = schL el := ⟨_, rfl⟩
    have hie : iscB el m = (colB el m && !schB el) := rfl
    obtain ⟨sb, hsb⟩ : ∃ s, s = schB el := ⟨_, rfl⟩
    obtain ⟨cv, hcv⟩ : ∃ s, s = colB el m := ⟨_, rfl⟩
    rw [← hsl, ← hsb] at ST S1 S2
    rw [← hsl] at SN
    rw [← hsb, ← hcv] at hie
    rw [← hcv] at IC1 IC2
    rw [hie] at IS
    have hsn := SN.out
    have CS := Lib.hid (fun a0 a1 c0 c1 w h0 h1 => sameInts_any a0 a1 c0 c1 sl sl w h0 h1 (by omega) (by omega))
    have hss : decide (sl = sl) = true := by simp
    rw [hss] at CS
    clear g7 B7 c1 oe hsl hsb hcv hie hss SN hsn
    go_wp2_with fail
    refine (S1.out _ e1).mono ?_; rintro e v2 ⟨ax, cx, rfl, ox, c2⟩
    have D2 := nx D1 c2
    have e2 := e1.below c2 (Nat.le_refl _)
    have p2 := ox.ints
    clear e1 D1 c2 ox h1 S1
    go_wp2_with fail
    refine (S2.out _ e2).mono ?_; rintro e v3 ⟨ay, cy, rfl, oy, c3⟩
    have D3 := nx D2 c3
    have e3 := e2.below c3 (Nat.le_refl _)
    have p3 := p2.below c3 (Nat.le_refl _)
    have q3 := oy.ints
    have CSH := Lib.hid (CS.out _ _ _ _ _ p3 q3)
    clear e2 D2 c3 oy p2 S2 p3 CS
    go_wp2_with fail
    refine CSH.out.mono ?_; rintro e v4 ⟨rfl, c4⟩
    have D4 := nx D3 c4
    have e4 := e3.below c4 (Nat.le_refl _)
    have q4 := q3.below c4 (Nat.le_refl _)
    clear e3 D3 c4 q3 CSH
    go_wp2_with fail
    refine (IS.out _ e4).mono ?_; rintro e v5 ⟨rfl, c5⟩
    have D5 := nx D4 c5
    have e5 := e4.below c5 (Nat.le_refl _)
    have q5 := q4.below c5 (Nat.le_refl _)
    clear e4 D4 c5 q4 IS
    go_wp2_with fail
    refine (IC2.out _ e5).mono ?_; rintro e v6 ⟨rfl, rfl⟩
    have g5 := HB.out.below D5 (Nat.le_refl _)
    cases sb with
    | true =>
      cases cv with
      | true =>
        obtain ⟨z, x, rfl, z1, z2, x1, x2, k1, k2⟩ := ST.out rfl
        obtain ⟨p, rfl⟩ : ∃ p, x = p + 1 := ⟨x - 1, by omega⟩
        obtain ⟨s, rfl⟩ : ∃ s, z = p + s + 2 := ⟨z - p - 2, by omega⟩
        have hps : p ≤ s := by omega
        rw [show p + 1 - 1 = p by omega, show p + s + 2 - 1 = p + s + 1 by omega] at k1
        rw [show p + s + 2 - (p + 1) - 1 = s by omega, show p + s + 2 - 1 = p + s + 1 by omega] at k2
        have l1 : p + s + 1 < el.length := by omega
        rw [List.getElem?_eq_getElem l1, List.getElem?_eq_getElem (show p < el.length by omega)] at k1
        rw [List.getElem?_eq_getElem l1, List.getElem?_eq_getElem (show s < el.length by omega)] at k2
        have k1' : el[p] = el[p + s + 1] := by simpa using k1
        have k2' : el[s] = el[p + s + 1] := by simpa using k2
        have eX : (((p + 1 : Nat) : Int)) = (p : Int) + 1 := by omega
        have eY : ((p + s + 2 : Nat) : Int) - ((p : Int) + 1) = (s : Int) + 1 := by omega
        have eZ : ((p + s + 2 : Nat) : Int) = ((p + s + 1 : Nat) : Int) + 1 := by omega
        rw [eX, eY, eZ] at q5 ⊢
        obtain ⟨t, ht⟩ : ∃ t, t = p + s + 1 := ⟨_, rfl⟩
        simp only [← ht] at q5 k1' k2' l1 ⊢
        rcases e5.2.2.2.2 with h0 | ⟨b1, of1, rfl, hb1, d1⟩
        · exact absurd l1 (by rw [h0]; simp)
        rcases q5.2.2.2.2 with h0 | ⟨b2, of2, rfl, hb2, d2⟩
        · simp at h0
        have y0 := d2 0 (by simp)
        have y1 := d2 1 (by simp)
        have y2 := d2 2 (by simp)
        have z0 := d1 p (by omega)
        have z1' := d1 s (by omega)
        have z2' := d1 t (by omega)
        rw [k1'] at z0
        rw [k2'] at z1'
        obtain ⟨u, hu⟩ : ∃ u, u = el[t] := ⟨_, rfl⟩
        rw [← hu] at z0 z1' z2'
        simp only [List.getElem_cons_zero, List.getElem_cons_succ, Nat.add_zero] at y0 y1 y2
        have hw1 : IntKind.i64.wrap ((p : Int) + 1 + ((s : Int) + 1)) = (t : Int) + 1 := by rw [IntKind.wrap_i64]; omega
        have hw2 : IntKind.i64.wrap ((p : Int) + 1 - 1) = (p : Int) := by rw [IntKind.wrap_i64]; omega
        have hw3 : IntKind.i64.wrap ((s : Int) + 1 - 1) = (s : Int) := by rw [IntKind.wrap_i64]; omega
        have hw4 : IntKind.i64.wrap ((t : Int) + 1 - 1) = (t : Int) := by rw [IntKind.wrap_i64]; omega
        have hi1 : (p : Int) < el.length := by omega
        have hi2 : (s : Int) < el.length := by omega
        have hi3 : (t : Int) < el.length := by omega
        have hle : (p : Int) + 1 ≤ (s : Int) + 1 := by omega
        clear eX eY eZ ht hu k1 k2 k1' k2' d1 d2 z1 z2 x1 x2 hps ST q5 l1 hb1 hb2
        go_wp2_with fail
        refine wp_region_quiet_lit (by kernel_rfl) (by kernel_rfl) ?_
        repeat (any_goals (first | go_big_quiet_step (fail) | quiet_step (fail)))
        refine wpQuiet_nil ?_
        intro _ hw'
        obtain ⟨nq, hw''⟩ := hw'
        subst hw''
        have D7 := below_drewN D5 nq
        have e7' : Ints (v5.drewN nq) (some ⟨b1, of1, none⟩) ce el := e5
        have g7' : BtS (v5.drewN nq) a cap n := g5
        obtain ⟨v7, hv7⟩ : ∃ W, W = v5.drewN nq := ⟨_, rfl⟩
        rw [← hv7] at D7 e7' g7'
        have HV7 := Lib.hid hv7
        clear hv7 D5 e5 g5
        go_wp2_with fail
        rw [← HV7.out]
        refine (dCount_any a cap n v7 g7' hn).mono ?_; rintro e x1 ⟨f1, f2, rfl, hf1, hf2, hf3, hf4, c1⟩
        have E1 := nx D7 c1
        have h1 := HB.out.below E1 (Nat.le_refl _)
        have e3 := e7'.below c1 (Nat.le_refl _)
        clear D7 c1 e7' g7'
        go_wp2_with fail
        refine (dGroup_any a cap n x1 h1 hn).mono ?_; rintro e x2 ⟨os, ag, cg, hc, ah, ch, rfl, hos, hhc, og, oh, c2⟩
        have E2 := nx E1 c2
        have e4 := e3.below c2 (Nat.le_refl _)
        have al2 := (Below.refl x2.heap.size x2).alloc (Nat.le_refl _) (.cells #[.slice ag os.length cg] 26)
        have hbx := new_at (w := x2) (n := x2.heap.size) (o := .cells #[.slice ag os.length cg] 26) rfl
        have og3 := og.ints.below al2 (Nat.le_refl _)
        have oh3 := oh.ints.below al2 (Nat.le_refl _)
        have e5 := e4.below al2 (Nat.le_refl _)
        have E3 := nx E2 al2
        obtain ⟨x3, hx3⟩ : ∃ W, W = x2.alloc (.cells #[.slice ag os.length cg] 26) := ⟨_, rfl⟩
        rw [← hx3] at hbx og3 oh3 e5 E3
        have HX3 := Lib.hid hx3
        have GC := Lib.hid (fun w h k => gco_impl ag cg os ah ch hc w h k (by omega) (by omega))
        have GS := Lib.hid (fun w h k => gco_spec ag cg os ah ch hc w h k (by omega) (by omega))
        have GL := Lib.hid (@gc_schur os hc)
        have HI := Lib.hid (fun w h => isSchur_impl ah ch hc 4 w h (by omega))
        obtain ⟨gv, hgv⟩ : ∃ g, g = gcB os hc := ⟨_, rfl⟩
        rw [← hgv] at GC GS GL
        obtain ⟨iv, hiv⟩ : ∃ g, g = iscB hc 4 := ⟨_, rfl⟩
        have HIV : Hid (gv = true → os.length = 1 → iv = true) := Lib.hid (by
          intro k1 k2
          obtain ⟨s1, s2⟩ := GL.out k1 k2
          rw [hiv]; unfold iscB; rw [s1, s2]; rfl)
        rw [← hiv] at HI
        have CF1 := Lib.hid (cc_impl f1 f2)
        have CF2 := Lib.hid (cc_spec f1 f2)
        obtain ⟨fv, hfv⟩ : ∃ g, g = ccv f1 f2 := ⟨_, rfl⟩
        rw [← hfv] at CF1 CF2
        clear hgv hiv hfv hx3 GL og oh e4 E2 al2 c2 e3 E1 h1
        go_wp2_with fail
        rw [← HX3.out]
        refine (GC.out _ og3 oh3).mono ?_; rintro e x4 ⟨rfl, c4⟩
        have hb4 := one_below hbx c4 (Nat.le_refl _)
        have og4 := og3.below c4 (Nat.le_refl _)
        have oh4 := oh3.below c4 (Nat.le_refl _)
        have e6 := e5.below c4 (Nat.le_refl _)
        have E4 := nx E3 c4
        have q4 := cell_of_one hb4
        clear hbx og3 oh3 e5 E3 GC c4
        cases gv with
        | true =>
          by_cases ho1 : os.length = 1
          · have hiv := HIV.out rfl ho1
            rw [hiv] at HI
            have HIH := Lib.hid (HI.out _ oh4)
            have hos1 : ((os.length : Int) == 1) = true := by rw [ho1]; rfl
            clear HI HIV hiv ho1
            go_wp2_with fail
            refine HIH.out.mono ?_; rintro e x5 ⟨rfl, c5⟩
            have hb5 := one_below hb4 c5 (Nat.le_refl _)
            have og5 := og4.below c5 (Nat.le_refl _)
            have oh5 := oh4.below c5 (Nat.le_refl _)
            have e7 := e6.below c5 (Nat.le_refl _)
            have E5 := nx E4 c5
            have q5 := cell_of_one hb5
            clear hb4 og4 oh4 e6 E4 q4 c5 HIH
            go_wp2_with fail
            refine (CF1.out _).mono ?_; rintro e y1 ⟨rfl, c6⟩
            have hb6 := one_below hb5 c6 (Nat.le_refl _)
            have og6 := og5.below c6 (Nat.le_refl _)
            have oh6 := oh5.below c6 (Nat.le_refl _)
            have e8 := e7.below c6 (Nat.le_refl _)
            have E6 := nx E5 c6
            have q6 := cell_of_one hb6
            clear hb5 og5 oh5 e7 E5 q5 c6
            go_wp2_with fail
            refine (CF2.out _).mono ?_; rintro e y2 ⟨rfl, c7⟩
            have hb7 := one_below hb6 c7 (Nat.le_refl _)
            have og7 := og6.below c7 (Nat.le_refl _)
            have oh7 := oh6.below c7 (Nat.le_refl _)
            have e9 := e8.below c7 (Nat.le_refl _)
            have E7 := nx E6 c7
            have q7 := cell_of_one hb7
            clear hb6 og6 oh6 e8 E6 q6 c7
            go_wp2_with fail
            refine (GS.out _ og7 oh7).mono ?_; rintro e y3 ⟨rfl, c8⟩
            have e10 := e9.below c8 (Nat.le_refl _)
            have E8 := nx E7 c8
            clear hb7 og7 oh7 e9 E7 q7 c8
            go_wp2_with fail
            refine (IC1.out _ e10).mono ?_; rintro e y4 ⟨rfl, rfl⟩
            go_wp2_with fail
            refine (IC2.out _ e10).mono ?_; rintro e y5 ⟨rfl, rfl⟩
            go_wp2_with fail
            go_ret
            exact ⟨ret_bool (by simp), E8⟩
          · have hos1 : ((os.length : Int) == 1) = false := by rw [beq_eq_false_iff_ne]; omega
            clear HI HIV ho1
            go_wp2_with fail
            refine (CF1.out _).mono ?_; rintro e y1 ⟨rfl, c6⟩
            have hb6 := one_below hb4 c6 (Nat.le_refl _)
            have og6 := og4.below c6 (Nat.le_refl _)
            have oh6 := oh4.below c6 (Nat.le_refl _)
            have e8 := e6.below c6 (Nat.le_refl _)
            have E6 := nx E4 c6
            have q6 := cell_of_one hb6
            clear hb4 og4 oh4 e6 E4 q4 c6
            go_wp2_with fail
            refine (CF2.out _).mono ?_; rintro e y2 ⟨rfl, c7⟩
            have hb7 := one_below hb6 c7 (Nat.le_refl _)
            have og7 := og6.below c7 (Nat.le_refl _)
            have oh7 := oh6.below c7 (Nat.le_refl _)
            have e9 := e8.below c7 (Nat.le_refl _)
            have E7 := nx E6 c7
            have q7 := cell_of_one hb7
            clear hb6 og6 oh6 e8 E6 q6 c7
            go_wp2_with fail
            refine (GS.out _ og7 oh7).mono ?_; rintro e y3 ⟨rfl, c8⟩
            have e10 := e9.below c8 (Nat.le_refl _)
            have E8 := nx E7 c8
            clear hb7 og7 oh7 e9 E7 q7 c8
            go_wp2_with fail
            refine (IC1.out _ e10).mono ?_; rintro e y4 ⟨rfl, rfl⟩
            go_wp2_with fail
            refine (IC2.out _ e10).mono ?_; rintro e y5 ⟨rfl, rfl⟩
            go_wp2_with fail
            go_ret
            exact ⟨ret_bool (by simp), E8⟩
        | false =>
          clear HI HIV
          go_wp2_with fail
          refine (CF1.out _).mono ?_; rintro e y1 ⟨rfl, c6⟩
          have hb6 := one_below hb4 c6 (Nat.le_refl _)
          have og6 := og4.below c6 (Nat.le_refl _)
          have oh6 := oh4.below c6 (Nat.le_refl _)
          have e8 := e6.below c6 (Nat.le_refl _)
          have E6 := nx E4 c6
          have q6 := cell_of_one hb6
          clear hb4 og4 oh4 e6 E4 q4 c6
          go_wp2_with fail
          refine (CF2.out _).mono ?_; rintro e y2 ⟨rfl, c7⟩
          have hb7 := one_below hb6 c7 (Nat.le_refl _)
          have og7 := og6.below c7 (Nat.le_refl _)
          have oh7 := oh6.below c7 (Nat.le_refl _)
          have e9 := e8.below c7 (Nat.le_refl _)
          have E7 := nx E6 c7
          have q7 := cell_of_one hb7
          clear hb6 og6 oh6 e8 E6 q6 c7
          go_wp2_with fail
          refine (GS.out _ og7 oh7).mono ?_; rintro e y3 ⟨rfl, c8⟩
          have e10 := e9.below c8 (Nat.le_refl _)
          have E8 := nx E7 c8
          clear hb7 og7 oh7 e9 E7 q7 c8
          go_wp2_with fail
          refine (IC1.out _ e10).mono ?_; rintro e y4 ⟨rfl, rfl⟩
          go_wp2_with fail
          refine (IC2.out _ e10).mono ?_; rintro e y5 ⟨rfl, rfl⟩
          go_wp2_with fail
          go_ret
          exact ⟨ret_bool (by simp), E8⟩
      | false =>
        obtain ⟨z, x, rfl, z1, z2, x1, x2, k1, k2⟩ := ST.out rfl
        obtain ⟨p, rfl⟩ : ∃ p, x = p + 1 := ⟨x - 1, by omega⟩
        obtain ⟨s, rfl⟩ : ∃ s, z = p + s + 2 := ⟨z - p - 2, by omega⟩
        have hps : p ≤ s := by omega
        rw [show p + 1 - 1 = p by omega, show p + s + 2 - 1 = p + s + 1 by omega] at k1
        rw [show p + s + 2 - (p + 1) - 1 = s by omega, show p + s + 2 - 1 = p + s + 1 by omega] at k2
        have l1 : p + s + 1 < el.length := by omega
        rw [List.getElem?_eq_getElem l1, List.getElem?_eq_getElem (show p < el.length by omega)] at k1
        rw [List.getElem?_eq_getElem l1, List.getElem?_eq_getElem (show s < el.length by omega)] at k2
        have k1' : el[p] = el[p + s + 1] := by simpa using k1
        have k2' : el[s] = el[p + s + 1] := by simpa using k2
        have eX : (((p + 1 : Nat) : Int)) = (p : Int) + 1 := by omega
        have eY : ((p + s + 2 : Nat) : Int) - ((p : Int) + 1) = (s : Int) + 1 := by omega
        have eZ : ((p + s + 2 : Nat) : Int) = ((p + s + 1 : Nat) : Int) + 1 := by omega
        rw [eX, eY, eZ] at q5 ⊢
        obtain ⟨t, ht⟩ : ∃ t, t = p + s + 1 := ⟨_, rfl⟩
        simp only [← ht] at q5 k1' k2' l1 ⊢
        rcases e5.2.2.2.2 with h0 | ⟨b1, of1, rfl, hb1, d1⟩
        · exact absurd l1 (by rw [h0]; simp)
        rcases q5.2.2.2.2 with h0 | ⟨b2, of2, rfl, hb2, d2⟩
        · simp at h0
        have y0 := d2 0 (by simp)
        have y1 := d2 1 (by simp)
        have y2 := d2 2 (by simp)
        have z0 := d1 p (by omega)
        have z1' := d1 s (by omega)
        have z2' := d1 t (by omega)
        rw [k1'] at z0
        rw [k2'] at z1'
        obtain ⟨u, hu⟩ : ∃ u, u = el[t] := ⟨_, rfl⟩
        rw [← hu] at z0 z1' z2'
        simp only [List.getElem_cons_zero, List.getElem_cons_succ, Nat.add_zero] at y0 y1 y2
        have hw1 : IntKind.i64.wrap ((p : Int) + 1 + ((s : Int) + 1)) = (t : Int) + 1 := by rw [IntKind.wrap_i64]; omega
        have hw2 : IntKind.i64.wrap ((p : Int) + 1 - 1) = (p : Int) := by rw [IntKind.wrap_i64]; omega
        have hw3 : IntKind.i64.wrap ((s : Int) + 1 - 1) = (s : Int) := by rw [IntKind.wrap_i64]; omega
        have hw4 : IntKind.i64.wrap ((t : Int) + 1 - 1) = (t : Int) := by rw [IntKind.wrap_i64]; omega
        have hi1 : (p : Int) < el.length := by omega
        have hi2 : (s : Int) < el.length := by omega
        have hi3 : (t : Int) < el.length := by omega
        have hle : (p : Int) + 1 ≤ (s : Int) + 1 := by omega
        clear eX eY eZ ht hu k1 k2 k1' k2' d1 d2 z1 z2 x1 x2 hps ST q5 l1 hb1 hb2
        go_wp2_with fail
        refine wp_region_quiet_lit (by kernel_rfl) (by kernel_rfl) ?_
        repeat (any_goals (first | go_big_quiet_step (fail) | quiet_step (fail)))
        refine wpQuiet_nil ?_
        intro _ hw'
        obtain ⟨nq, hw''⟩ := hw'
        subst hw''
        have D7 := below_drewN D5 nq
        have e7' : Ints (v5.drewN nq) (some ⟨b1, of1, none⟩) ce el := e5
        have g7' : BtS (v5.drewN nq) a cap n := g5
        obtain ⟨v7, hv7⟩ : ∃ W, W = v5.drewN nq := ⟨_, rfl⟩
        rw [← hv7] at D7 e7' g7'
        have HV7 := Lib.hid hv7
        clear hv7 D5 e5 g5
        go_wp2_with fail
        rw [← HV7.out]
        refine (dCount_any a cap n v7 g7' hn).mono ?_; rintro e x1 ⟨f1, f2, rfl, hf1, hf2, hf3, hf4, c1⟩
        have E1 := nx D7 c1
        have h1 := HB.out.below E1 (Nat.le_refl _)
        have e3 := e7'.below c1 (Nat.le_refl _)
        clear D7 c1 e7' g7'
        go_wp2_with fail
        refine (dGroup_any a cap n x1 h1 hn).mono ?_; rintro e x2 ⟨os, ag, cg, hc, ah, ch, rfl, hos, hhc, og, oh, c2⟩
        have E2 := nx E1 c2
        have e4 := e3.below c2 (Nat.le_refl _)
        have al2 := (Below.refl x2.heap.size x2).alloc (Nat.le_refl _) (.cells #[.slice ag os.length cg] 26)
        have hbx := new_at (w := x2) (n := x2.heap.size) (o := .cells #[.slice ag os.length cg] 26) rfl
        have og3 := og.ints.below al2 (Nat.le_refl _)
        have oh3 := oh.ints.below al2 (Nat.le_refl _)
        have e5 := e4.below al2 (Nat.le_refl _)
        have E3 := nx E2 al2
        obtain ⟨x3, hx3⟩ : ∃ W, W = x2.alloc (.cells #[.slice ag os.length cg] 26) := ⟨_, rfl⟩
        rw [← hx3] at hbx og3 oh3 e5 E3
        have HX3 := Lib.hid hx3
        have GC := Lib.hid (fun w h k => gco_impl ag cg os ah ch hc w h k (by omega) (by omega))
        have GS := Lib.hid (fun w h k => gco_spec ag cg os ah ch hc w h k (by omega) (by omega))
        have GL := Lib.hid (@gc_schur os hc)
        have HI := Lib.hid (fun w h => isSchur_impl ah ch hc 4 w h (by omega))
        obtain ⟨gv, hgv⟩ : ∃ g, g = gcB os hc := ⟨_, rfl⟩
        rw [← hgv] at GC GS GL
        obtain ⟨iv, hiv⟩ : ∃ g, g = iscB hc 4 := ⟨_, rfl⟩
        have HIV : Hid (gv = true → os.length = 1 → iv = true) := Lib.hid (by
          intro k1 k2
          obtain ⟨s1, s2⟩ := GL.out k1 k2
          rw [hiv]; unfold iscB; rw [s1, s2]; rfl)
        rw [← hiv] at HI
        have CF1 := Lib.hid (cc_impl f1 f2)
        have CF2 := Lib.hid (cc_spec f1 f2)
        obtain ⟨fv, hfv⟩ : ∃ g, g = ccv f1 f2 := ⟨_, rfl⟩
        rw [← hfv] at CF1 CF2
        clear hgv hiv hfv hx3 GL og oh e4 E2 al2 c2 e3 E1 h1
        go_wp2_with fail
        rw [← HX3.out]
        refine (GC.out _ og3 oh3).mono ?_; rintro e x4 ⟨rfl, c4⟩
        have hb4 := one_below hbx c4 (Nat.le_refl _)
        have og4 := og3.below c4 (Nat.le_refl _)
        have oh4 := oh3.below c4 (Nat.le_refl _)
        have e6 := e5.below c4 (Nat.le_refl _)
        have E4 := nx E3 c4
        have q4 := cell_of_one hb4
        clear hbx og3 oh3 e5 E3 GC c4
        cases gv with
        | true =>
          by_cases ho1 : os.length = 1
          · have hiv := HIV.out rfl ho1
            rw [hiv] at HI
            have HIH := Lib.hid (HI.out _ oh4)
            have hos1 : ((os.length : Int) == 1) = true := by rw [ho1]; rfl
            clear HI HIV hiv ho1
            go_wp2_with fail
            refine HIH.out.mono ?_; rintro e x5 ⟨rfl, c5⟩
            have hb5 := one_below hb4 c5 (Nat.le_refl _)
            have og5 := og4.below c5 (Nat.le_refl _)
            have oh5 := oh4.below c5 (Nat.le_refl _)
            have e7 := e6.below c5 (Nat.le_refl _)
            have E5 := nx E4 c5
            have q5 := cell_of_one hb5
            clear hb4 og4 oh4 e6 E4 q4 c5 HIH
            go_wp2_with fail
            refine (CF1.out _).mono ?_; rintro e y1 ⟨rfl, c6⟩
            have hb6 := one_below hb5 c6 (Nat.le_refl _)
            have og6 := og5.below c6 (Nat.le_refl _)
            have oh6 := oh5.below c6 (Nat.le_refl _)
            have e8 := e7.below c6 (Nat.le_refl _)
            have E6 := nx E5 c6
            have q6 := cell_of_one hb6
            clear hb5 og5 oh5 e7 E5 q5 c6
            go_wp2_with fail
            refine (CF2.out _).mono ?_; rintro e y2 ⟨rfl, c7⟩
            have hb7 := one_below hb6 c7 (Nat.le_refl _)
            have og7 := og6.below c7 (Nat.le_refl _)
            have oh7 := oh6.below c7 (Nat.le_refl _)
            have e9 := e8.below c7 (Nat.le_refl _)
            have E7 := nx E6 c7
            have q7 := cell_of_one hb7
            clear hb6 og6 oh6 e8 E6 q6 c7
            go_wp2_with fail
            refine (GS.out _ og7 oh7).mono ?_; rintro e y3 ⟨rfl, c8⟩
            have e10 := e9.below c8 (Nat.le_refl _)
            have E8 := nx E7 c8
            clear hb7 og7 oh7 e9 E7 q7 c8
            go_wp2_with fail
            refine (IC1.out _ e10).mono ?_; rintro e y4 ⟨rfl, rfl⟩
            go_wp2_with fail
            refine (IC2.out _ e10).mono ?_; rintro e y5 ⟨rfl, rfl⟩
            go_wp2_with fail
            go_ret
            exact ⟨ret_bool (by simp), E8⟩
          · have hos1 : ((os.length : Int) == 1) = false := by rw [beq_eq_false_iff_ne]; omega
            clear HI HIV ho1
            go_wp2_with fail
            refine (CF1.out _).mono ?_; rintro e y1 ⟨rfl, c6⟩
            have hb6 := one_below hb4 c6 (Nat.le_refl _)
            have og6 := og4.below c6 (Nat.le_refl _)
            have oh6 := oh4.below c6 (Nat.le_refl _)
            have e8 := e6.below c6 (Nat.le_refl _)
            have E6 := nx E4 c6
            have q6 := cell_of_one hb6
            clear hb4 og4 oh4 e6 E4 q4 c6
            go_wp2_with fail
            refine (CF2.out _).mono ?_; rintro e y2 ⟨rfl, c7⟩
            have hb7 := one_below hb6 c7 (Nat.le_refl _)
            have og7 := og6.below c7 (Nat.le_refl _)
            have oh7 := oh6.below c7 (Nat.le_refl _)
            have e9 := e8.below c7 (Nat.le_refl _)
            have E7 := nx E6 c7
            have q7 := cell_of_one hb7
            clear hb6 og6 oh6 e8 E6 q6 c7
            go_wp2_with fail
            refine (GS.out _ og7 oh7).mono ?_; rintro e y3 ⟨rfl, c8⟩
            have e10 := e9.below c8 (Nat.le_refl _)
            have E8 := nx E7 c8
            clear hb7 og7 oh7 e9 E7 q7 c8
            go_wp2_with fail
            refine (IC1.out _ e10).mono ?_; rintro e y4 ⟨rfl, rfl⟩
            go_wp2_with fail
            refine (IC2.out _ e10).mono ?_; rintro e y5 ⟨rfl, rfl⟩
            go_wp2_with fail
            go_ret
            exact ⟨ret_bool (by simp), E8⟩
        | false =>
          clear HI HIV
          go_wp2_with fail
          refine (CF1.out _).mono ?_; rintro e y1 ⟨rfl, c6⟩
          have hb6 := one_below hb4 c6 (Nat.le_refl _)
          have og6 := og4.below c6 (Nat.le_refl _)
          have oh6 := oh4.below c6 (Nat.le_refl _)
          have e8 := e6.below c6 (Nat.le_refl _)
          have E6 := nx E4 c6
          have q6 := cell_of_one hb6
          clear hb4 og4 oh4 e6 E4 q4 c6
          go_wp2_with fail
          refine (CF2.out _).mono ?_; rintro e y2 ⟨rfl, c7⟩
          have hb7 := one_below hb6 c7 (Nat.le_refl _)
          have og7 := og6.below c7 (Nat.le_refl _)
          have oh7 := oh6.below c7 (Nat.le_refl _)
          have e9 := e8.below c7 (Nat.le_refl _)
          have E7 := nx E6 c7
          have q7 := cell_of_one hb7
          clear hb6 og6 oh6 e8 E6 q6 c7
          go_wp2_with fail
          refine (GS.out _ og7 oh7).mono ?_; rintro e y3 ⟨rfl, c8⟩
          have e10 := e9.below c8 (Nat.le_refl _)
          have E8 := nx E7 c8
          clear hb7 og7 oh7 e9 E7 q7 c8
          go_wp2_with fail
          refine (IC1.out _ e10).mono ?_; rintro e y4 ⟨rfl, rfl⟩
          go_wp2_with fail
          refine (IC2.out _ e10).mono ?_; rintro e y5 ⟨rfl, rfl⟩
          go_wp2_with fail
          go_ret
          exact ⟨ret_bool (by simp), E8⟩
    | false =>
      clear ST q5
      cases cv with
      | true =>
        have h15 : True := trivial
        go_wp2_with fail
        refine wp_region_quiet_lit (by kernel_rfl) (by kernel_rfl) ?_
        repeat (any_goals (first | go_big_quiet_step (fail) | quiet_step (fail)))
        refine wpQuiet_nil ?_
        intro _ hw'
        obtain ⟨nq, hw''⟩ := hw'
        subst hw''
        have D7 := below_drewN D5 nq
        have e7' : Ints (v5.drewN nq) ae ce el := e5
        have g7' : BtS (v5.drewN nq) a cap n := g5
        obtain ⟨v7, hv7⟩ : ∃ W, W = v5.drewN nq := ⟨_, rfl⟩
        rw [← hv7] at D7 e7' g7'
        have HV7 := Lib.hid hv7
        clear hv7 D5 e5 g5
        go_wp2_with fail
        rw [← HV7.out]
        refine (dCount_any a cap n v7 g7' hn).mono ?_; rintro e x1 ⟨f1, f2, rfl, hf1, hf2, hf3, hf4, c1⟩
        have E1 := nx D7 c1
        have h1 := HB.out.below E1 (Nat.le_refl _)
        have e3 := e7'.below c1 (Nat.le_refl _)
        clear D7 c1 e7' g7'
        go_wp2_with fail
        refine (dGroup_any a cap n x1 h1 hn).mono ?_; rintro e x2 ⟨os, ag, cg, hc, ah, ch, rfl, hos, hhc, og, oh, c2⟩
        have E2 := nx E1 c2
        have e4 := e3.below c2 (Nat.le_refl _)
        have al2 := (Below.refl x2.heap.size x2).alloc (Nat.le_refl _) (.cells #[.slice ag os.length cg] 26)
        have hbx := new_at (w := x2) (n := x2.heap.size) (o := .cells #[.slice ag os.length cg] 26) rfl
        have og3 := og.ints.below al2 (Nat.le_refl _)
        have oh3 := oh.ints.below al2 (Nat.le_refl _)
        have e5 := e4.below al2 (Nat.le_refl _)
        have E3 := nx E2 al2
        obtain ⟨x3, hx3⟩ : ∃ W, W = x2.alloc (.cells #[.slice ag os.length cg] 26) := ⟨_, rfl⟩
        rw [← hx3] at hbx og3 oh3 e5 E3
        have HX3 := Lib.hid hx3
        have GC := Lib.hid (fun w h k => gco_impl ag cg os ah ch hc w h k (by omega) (by omega))
        have GS := Lib.hid (fun w h k => gco_spec ag cg os ah ch hc w h k (by omega) (by omega))
        have GL := Lib.hid (@gc_schur os hc)
        have HI := Lib.hid (fun w h => isSchur_impl ah ch hc 4 w h (by omega))
        obtain ⟨gv, hgv⟩ : ∃ g, g = gcB os hc := ⟨_, rfl⟩
        rw [← hgv] at GC GS GL
        obtain ⟨iv, hiv⟩ : ∃ g, g = iscB hc 4 := ⟨_, rfl⟩
        have HIV : Hid (gv = true → os.length = 1 → iv = true) := Lib.hid (by
          intro k1 k2
          obtain ⟨s1, s2⟩ := GL.out k1 k2
          rw [hiv]; unfold iscB; rw [s1, s2]; rfl)
        rw [← hiv] at HI
        have CF1 := Lib.hid (cc_impl f1 f2)
        have CF2 := Lib.hid (cc_spec f1 f2)
        obtain ⟨fv, hfv⟩ : ∃ g, g = ccv f1 f2 := ⟨_, rfl⟩
        rw [← hfv] at CF1 CF2
        clear hgv hiv hfv hx3 GL og oh e4 E2 al2 c2 e3 E1 h1
        go_wp2_with fail
        rw [← HX3.out]
        refine (GC.out _ og3 oh3).mono ?_; rintro e x4 ⟨rfl, c4⟩
        have hb4 := one_below hbx c4 (Nat.le_refl _)
        have og4 := og3.below c4 (Nat.le_refl _)
        have oh4 := oh3.below c4 (Nat.le_refl _)
        have e6 := e5.below c4 (Nat.le_refl _)
        have E4 := nx E3 c4
        have q4 := cell_of_one hb4
        clear hbx og3 oh3 e5 E3 GC c4
        cases gv with
        | true =>
          by_cases ho1 : os.length = 1
          · have hiv := HIV.out rfl ho1
            rw [hiv] at HI
            have HIH := Lib.hid (HI.out _ oh4)
            have hos1 : ((os.length : Int) == 1) = true := by rw [ho1]; rfl
            clear HI HIV hiv ho1
            go_wp2_with fail
            refine HIH.out.mono ?_; rintro e x5 ⟨rfl, c5⟩
            have hb5 := one_below hb4 c5 (Nat.le_refl _)
            have og5 := og4.below c5 (Nat.le_refl _)
            have oh5 := oh4.below c5 (Nat.le_refl _)
            have e7 := e6.below c5 (Nat.le_refl _)
            have E5 := nx E4 c5
            have q5 := cell_of_one hb5
            clear hb4 og4 oh4 e6 E4 q4 c5 HIH
            go_wp2_with fail
            refine (CF1.out _).mono ?_; rintro e y1 ⟨rfl, c6⟩
            have hb6 := one_below hb5 c6 (Nat.le_refl _)
            have og6 := og5.below c6 (Nat.le_refl _)
            have oh6 := oh5.below c6 (Nat.le_refl _)
            have e8 := e7.below c6 (Nat.le_refl _)
            have E6 := nx E5 c6
            have q6 := cell_of_one hb6
            clear hb5 og5 oh5 e7 E5 q5 c6
            go_wp2_with fail
            refine (CF2.out _).mono ?_; rintro e y2 ⟨rfl, c7⟩
            have hb7 := one_below hb6 c7 (Nat.le_refl _)
            have og7 := og6.below c7 (Nat.le_refl _)
            have oh7 := oh6.below c7 (Nat.le_refl _)
            have e9 := e8.below c7 (Nat.le_refl _)
            have E7 := nx E6 c7
            have q7 := cell_of_one hb7
            clear hb6 og6 oh6 e8 E6 q6 c7
            go_wp2_with fail
            refine (GS.out _ og7 oh7).mono ?_; rintro e y3 ⟨rfl, c8⟩
            have e10 := e9.below c8 (Nat.le_refl _)
            have E8 := nx E7 c8
            clear hb7 og7 oh7 e9 E7 q7 c8
            go_wp2_with fail
            refine (IC1.out _ e10).mono ?_; rintro e y4 ⟨rfl, rfl⟩
            go_wp2_with fail
            refine (IC2.out _ e10).mono ?_; rintro e y5 ⟨rfl, rfl⟩
            go_wp2_with fail
            go_ret
            exact ⟨ret_bool (by simp), E8⟩
          · have hos1 : ((os.length : Int) == 1) = false := by rw [beq_eq_false_iff_ne]; omega
            clear HI HIV ho1
            go_wp2_with fail
            refine (CF1.out _).mono ?_; rintro e y1 ⟨rfl, c6⟩
            have hb6 := one_below hb4 c6 (Nat.le_refl _)
            have og6 := og4.below c6 (Nat.le_refl _)
            have oh6 := oh4.below c6 (Nat.le_refl _)
            have e8 := e6.below c6 (Nat.le_refl _)
            have E6 := nx E4 c6
            have q6 := cell_of_one hb6
            clear hb4 og4 oh4 e6 E4 q4 c6
            go_wp2_with fail
            refine (CF2.out _).mono ?_; rintro e y2 ⟨rfl, c7⟩
            have hb7 := one_below hb6 c7 (Nat.le_refl _)
            have og7 := og6.below c7 (Nat.le_refl _)
            have oh7 := oh6.below c7 (Nat.le_refl _)
            have e9 := e8.below c7 (Nat.le_refl _)
            have E7 := nx E6 c7
            have q7 := cell_of_one hb7
            clear hb6 og6 oh6 e8 E6 q6 c7
            go_wp2_with fail
            refine (GS.out _ og7 oh7).mono ?_; rintro e y3 ⟨rfl, c8⟩
            have e10 := e9.below c8 (Nat.le_refl _)
            have E8 := nx E7 c8
            clear hb7 og7 oh7 e9 E7 q7 c8
            go_wp2_with fail
            refine (IC1.out _ e10).mono ?_; rintro e y4 ⟨rfl, rfl⟩
            go_wp2_with fail
            refine (IC2.out _ e10).mono ?_; rintro e y5 ⟨rfl, rfl⟩
            go_wp2_with fail
            go_ret
            exact ⟨ret_bool (by simp), E8⟩
        | false =>
          clear HI HIV
          go_wp2_with fail
          refine (CF1.out _).mono ?_; rintro e y1 ⟨rfl, c6⟩
          have hb6 := one_below hb4 c6 (Nat.le_refl _)
          have og6 := og4.below c6 (Nat.le_refl _)
          have oh6 := oh4.below c6 (Nat.le_refl _)
          have e8 := e6.below c6 (Nat.le_refl _)
          have E6 := nx E4 c6
          have q6 := cell_of_one hb6
          clear hb4 og4 oh4 e6 E4 q4 c6
          go_wp2_with fail
          refine (CF2.out _).mono ?_; rintro e y2 ⟨rfl, c7⟩
          have hb7 := one_below hb6 c7 (Nat.le_refl _)
          have og7 := og6.below c7 (Nat.le_refl _)
          have oh7 := oh6.below c7 (Nat.le_refl _)
          have e9 := e8.below c7 (Nat.le_refl _)
          have E7 := nx E6 c7
          have q7 := cell_of_one hb7
          clear hb6 og6 oh6 e8 E6 q6 c7
          go_wp2_with fail
          refine (GS.out _ og7 oh7).mono ?_; rintro e y3 ⟨rfl, c8⟩
          have e10 := e9.below c8 (Nat.le_refl _)
          have E8 := nx E7 c8
          clear hb7 og7 oh7 e9 E7 q7 c8
          go_wp2_with fail
          refine (IC1.out _ e10).mono ?_; rintro e y4 ⟨rfl, rfl⟩
          go_wp2_with fail
          refine (IC2.out _ e10).mono ?_; rintro e y5 ⟨rfl, rfl⟩
          go_wp2_with fail
          go_ret
          exact ⟨ret_bool (by simp), E8⟩
      | false =>
        have h15 : True := trivial
        go_wp2_with fail
        refine wp_region_quiet_lit (by kernel_rfl) (by kernel_rfl) ?_
        repeat (any_goals (first | go_big_quiet_step (fail) | quiet_step (fail)))
        refine wpQuiet_nil ?_
        intro _ hw'
        obtain ⟨nq, hw''⟩ := hw'
        subst hw''
        have D7 := below_drewN D5 nq
        have e7' : Ints (v5.drewN nq) ae ce el := e5
        have g7' : BtS (v5.drewN nq) a cap n := g5
        obtain ⟨v7, hv7⟩ : ∃ W, W = v5.drewN nq := ⟨_, rfl⟩
        rw [← hv7] at D7 e7' g7'
        have HV7 := Lib.hid hv7
        clear hv7 D5 e5 g5
        go_wp2_with fail
        rw [← HV7.out]
        refine (dCount_any a cap n v7 g7' hn).mono ?_; rintro e x1 ⟨f1, f2, rfl, hf1, hf2, hf3, hf4, c1⟩
        have E1 := nx D7 c1
        have h1 := HB.out.below E1 (Nat.le_refl _)
        have e3 := e7'.below c1 (Nat.le_refl _)
        clear D7 c1 e7' g7'
        go_wp2_with fail
        refine (dGroup_any a cap n x1 h1 hn).mono ?_; rintro e x2 ⟨os, ag, cg, hc, ah, ch, rfl, hos, hhc, og, oh, c2⟩
        have E2 := nx E1 c2
        have e4 := e3.below c2 (Nat.le_refl _)
        have al2 := (Below.refl x2.heap.size x2).alloc (Nat.le_refl _) (.cells #[.slice ag os.length cg] 26)
        have hbx := new_at (w := x2) (n := x2.heap.size) (o := .cells #[.slice ag os.length cg] 26) rfl
        have og3 := og.ints.below al2 (Nat.le_refl _)
        have oh3 := oh.ints.below al2 (Nat.le_refl _)
        have e5 := e4.below al2 (Nat.le_refl _)
        have E3 := nx E2 al2
        obtain ⟨x3, hx3⟩ : ∃ W, W = x2.alloc (.cells #[.slice ag os.length cg] 26) := ⟨_, rfl⟩
        rw [← hx3] at hbx og3 oh3 e5 E3
        have HX3 := Lib.hid hx3
        have GC := Lib.hid (fun w h k => gco_impl ag cg os ah ch hc w h k (by omega) (by omega))
        have GS := Lib.hid (fun w h k => gco_spec ag cg os ah ch hc w h k (by omega) (by omega))
        have GL := Lib.hid (@gc_schur os hc)
        have HI := Lib.hid (fun w h => isSchur_impl ah ch hc 4 w h (by omega))
        obtain ⟨gv, hgv⟩ : ∃ g, g = gcB os hc := ⟨_, rfl⟩
        rw [← hgv] at GC GS GL
        obtain ⟨iv, hiv⟩ : ∃ g, g = iscB hc 4 := ⟨_, rfl⟩
        have HIV : Hid (gv = true → os.length = 1 → iv = true) := Lib.hid (by
          intro k1 k2
          obtain ⟨s1, s2⟩ := GL.out k1 k2
          rw [hiv]; unfold iscB; rw [s1, s2]; rfl)
        rw [← hiv] at HI
        have CF1 := Lib.hid (cc_impl f1 f2)
        have CF2 := Lib.hid (cc_spec f1 f2)
        obtain ⟨fv, hfv⟩ : ∃ g, g = ccv f1 f2 := ⟨_, rfl⟩
        rw [← hfv] at CF1 CF2
        clear hgv hiv hfv hx3 GL og oh e4 E2 al2 c2 e3 E1 h1
        go_wp2_with fail
        rw [← HX3.out]
        refine (GC.out _ og3 oh3).mono ?_; rintro e x4 ⟨rfl, c4⟩
        have hb4 := one_below hbx c4 (Nat.le_refl _)
        have og4 := og3.below c4 (Nat.le_refl _)
        have oh4 := oh3.below c4 (Nat.le_refl _)
        have e6 := e5.below c4 (Nat.le_refl _)
        have E4 := nx E3 c4
        have q4 := cell_of_one hb4
        clear hbx og3 oh3 e5 E3 GC c4
        cases gv with
        | true =>
          by_cases ho1 : os.length = 1
          · have hiv := HIV.out rfl ho1
            rw [hiv] at HI
            have HIH := Lib.hid (HI.out _ oh4)
            have hos1 : ((os.length : Int) == 1) = true := by rw [ho1]; rfl
            clear HI HIV hiv ho1
            go_wp2_with fail
            refine HIH.out.mono ?_; rintro e x5 ⟨rfl, c5⟩
            have hb5 := one_below hb4 c5 (Nat.le_refl _)
            have og5 := og4.below c5 (Nat.le_refl _)
            have oh5 := oh4.below c5 (Nat.le_refl _)
            have e7 := e6.below c5 (Nat.le_refl _)
            have E5 := nx E4 c5
            have q5 := cell_of_one hb5
            clear hb4 og4 oh4 e6 E4 q4 c5 HIH
            go_wp2_with fail
            refine (CF1.out _).mono ?_; rintro e y1 ⟨rfl, c6⟩
            have hb6 := one_below hb5 c6 (Nat.le_refl _)
            have og6 := og5.below c6 (Nat.le_refl _)
            have oh6 := oh5.below c6 (Nat.le_refl _)
            have e8 := e7.below c6 (Nat.le_refl _)
            have E6 := nx E5 c6
            have q6 := cell_of_one hb6
            clear hb5 og5 oh5 e7 E5 q5 c6
            go_wp2_with fail
            refine (CF2.out _).mono ?_; rintro e y2 ⟨rfl, c7⟩
            have hb7 := one_below hb6 c7 (Nat.le_refl _)
            have og7 := og6.below c7 (Nat.le_refl _)
            have oh7 := oh6.below c7 (Nat.le_refl _)
            have e9 := e8.below c7 (Nat.le_refl _)
            have E7 := nx E6 c7
            have q7 := cell_of_one hb7
            clear hb6 og6 oh6 e8 E6 q6 c7
            go_wp2_with fail
            refine (GS.out _ og7 oh7).mono ?_; rintro e y3 ⟨rfl, c8⟩
            have e10 := e9.below c8 (Nat.le_refl _)
            have E8 := nx E7 c8
            clear hb7 og7 oh7 e9 E7 q7 c8
            go_wp2_with fail
            refine (IC1.out _ e10).mono ?_; rintro e y4 ⟨rfl, rfl⟩
            go_wp2_with fail
            refine (IC2.out _ e10).mono ?_; rintro e y5 ⟨rfl, rfl⟩
            go_wp2_with fail
            go_ret
            exact ⟨ret_bool (by simp), E8⟩
          · have hos1 : ((os.length : Int) == 1) = false := by rw [beq_eq_false_iff_ne]; omega
            clear HI HIV ho1
            go_wp2_with fail
            refine (CF1.out _).mono ?_; rintro e y1 ⟨rfl, c6⟩
            have hb6 := one_below hb4 c6 (Nat.le_refl _)
            have og6 := og4.below c6 (Nat.le_refl _)
            have oh6 := oh4.below c6 (Nat.le_refl _)
            have e8 := e6.below c6 (Nat.le_refl _)
            have E6 := nx E4 c6
            have q6 := cell_of_one hb6
            clear hb4 og4 oh4 e6 E4 q4 c6
            go_wp2_with fail
            refine (CF2.out _).mono ?_; rintro e y2 ⟨rfl, c7⟩
            have hb7 := one_below hb6 c7 (Nat.le_refl _)
            have og7 := og6.below c7 (Nat.le_refl _)
            have oh7 := oh6.below c7 (Nat.le_refl _)
            have e9 := e8.below c7 (Nat.le_refl _)
            have E7 := nx E6 c7
            have q7 := cell_of_one hb7
            clear hb6 og6 oh6 e8 E6 q6 c7
            go_wp2_with fail
            refine (GS.out _ og7 oh7).mono ?_; rintro e y3 ⟨rfl, c8⟩
            have e10 := e9.below c8 (Nat.le_refl _)
            have E8 := nx E7 c8
            clear hb7 og7 oh7 e9 E7 q7 c8
            go_wp2_with fail
            refine (IC1.out _ e10).mono ?_; rintro e y4 ⟨rfl, rfl⟩
            go_wp2_with fail
            refine (IC2.out _ e10).mono ?_; rintro e y5 ⟨rfl, rfl⟩
            go_wp2_with fail
            go_ret
            exact ⟨ret_bool (by simp), E8⟩
        | false =>
          clear HI HIV
          go_wp2_with fail
          refine (CF1.out _).mono ?_; rintro e y1 ⟨rfl, c6⟩
          have hb6 := one_below hb4 c6 (Nat.le_refl _)
          have og6 := og4.below c6 (Nat.le_refl _)
          have oh6 := oh4.below c6 (Nat.le_refl _)
          have e8 := e6.below c6 (Nat.le_refl _)
          have E6 := nx E4 c6
          have q6 := cell_of_one hb6
          clear hb4 og4 oh4 e6 E4 q4 c6
          go_wp2_with fail
          refine (CF2.out _).mono ?_; rintro e y2 ⟨rfl, c7⟩
          have hb7 := one_below hb6 c7 (Nat.le_refl _)
          have og7 := og6.below c7 (Nat.le_refl _)
          have oh7 := oh6.below c7 (Nat.le_refl _)
          have e9 := e8.below c7 (Nat.le_refl _)
          have E7 := nx E6 c7
          have q7 := cell_of_one hb7
          clear hb6 og6 oh6 e8 E6 q6 c7
          go_wp2_with fail
          refine (GS.out _ og7 oh7).mono ?_; rintro e y3 ⟨rfl, c8⟩
          have e10 := e9.below c8 (Nat.le_refl _)
          have E8 := nx E7 c8
          clear hb7 og7 oh7 e9 E7 q7 c8
          go_wp2_with fail
          refine (IC1.out _ e10).mono ?_; rintro e y4 ⟨rfl, rfl⟩
          go_wp2_with fail
          refine (IC2.out _ e10).mono ?_; rintro e y5 ⟨rfl, rfl⟩
          go_wp2_with fail
          go_ret
          exact ⟨ret_bool (by simp), E8⟩

end Go.Proofs.Ytbidkjhgodkamaa
