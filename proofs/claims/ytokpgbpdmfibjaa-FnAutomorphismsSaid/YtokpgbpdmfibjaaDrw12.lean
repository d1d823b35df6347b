/-
The draws of FnAutomorphisms that hold a list: DrawIsAutomorphism and DrawImageOfSet. Conditions: codes of at most 2000000 bytes.
-/
import Derived.Test.YtokpgbpdmfibjaaDrw11
namespace Go.Proofs.Ytokpgbpdmfibjaa
open Go.RowKit Go.ChangeShapes
set_option linter.unusedVariables false
set_option linter.unusedSimpArgs false

set_option maxRecDepth 20000 in
set_option maxHeartbeats 12800000 in
theorem dIsAut_any (a : Option Addr) (cap n : Nat) (w : World) (hb : BtS w a cap n) (hn : n ≤ 2000000) :
    Calls Try.prog 26 #[.slice a n cap] w (DrewGL w) := by
  have ha1 := (Below.refl w.heap.size w).alloc (Nat.le_refl _) (.cells #[.slice none 0 0] 26)
  obtain ⟨W0, hW0⟩ : ∃ W, W = w.alloc (.cells #[.slice none 0 0] 26) := ⟨_, rfl⟩
  rw [← hW0] at ha1
  have C1 := Lib.hid (new_any a cap n W0 (hb.below ha1 (Nat.le_refl _)) hn)
  have CB := Lib.hid (fun cb (N : Int) w hc (hN : N ≤ 2000000000) => below_any W0 a cap n cb N w hc hn hN)
  have CN := Lib.hid (fun cb (N : Int) w hc (hN : N ≤ 2000000000) => once_any W0 a cap n cb N w hc hn hN)
  have HW0 := Lib.hid hW0
  clear hW0 hb ha1
  go_enter Try.func26, Try.ntmps26
  go_wp2_with fail
  rw [← HW0.out]
  refine C1.out.mono ?_; rintro e w1 ⟨cb, rfl, hc1⟩
  have hcb1 := hc1.lt
  have CG := Lib.hid (l27Group_any W0 a cap n cb w1 hc1 hn)
  clear C1 hc1
  go_wp2_with fail
  refine CG.out.mono ?_; rintro e w2 ⟨xs, ag, cg, rfl, hxs, og, hc2, g2⟩
  have X3 := Bx.start HW0.out hc2 og hcb1
  have hxl : xs.length ≤ 4 := hxs
  obtain ⟨W3, hW3⟩ : ∃ W, W = w2.alloc (.cells #[.slice ag xs.length cg] 26) := ⟨_, rfl⟩
  rw [← hW3] at X3
  have HW3 := Lib.hid hW3
  clear hW3 CG og hc2 g2 hxs
  have AT := Lib.hid (fun w h => ats_spec ag cg xs w h (by omega))
  have HO := Lib.hid (fun w h => orderOf_spec ag cg xs w h (by omega))
  rw [← (ordN_eq xs).1] at HO
  have HN24 := Lib.hid (ordN_eq xs).2
  have HNG : Hid (∀ k, k < ordN xs → ∃ v : Nat, v < 24 ∧ ∀ w, Ints w ag cg xs → Calls Try.prog 100 #[.agg #[.slice ag xs.length cg], .int .i64 (k : Int)] w fun e w' => e = .returned (.int .i64 (v : Int)) ∧ Below w.heap.size w w') := Lib.hid (fun k hk => by
    have hg : grpB xs = true := by
      cases h : grpB xs with
      | true => rfl
      | false => have := ordN_no h; omega
    exact ⟨_, gneg_lt24 hg k, fun w h => l2Negate_any ag cg xs k w h hg (by have := (ordN_eq xs).2; omega)⟩)
  have hFl := atL_len xs
  have hFp : atB xs = true → 0 < (atL xs).length := fun h => by
    have hg : grpB xs = true := by simp only [atB, Bool.and_eq_true] at h; exact h.1
    rw [show atL xs = autL xs by simp [atL, h]]
    exact autL_pos hg
  have hFr : ∀ i, i < (atL xs).length → ((atL xs).getD i []).length ≤ 24 := fun i hi => by
    by_cases hb : atB xs = true
    · have e : atL xs = autL xs := by simp [atL, hb]
      rw [e] at hi ⊢
      obtain ⟨-, -, h3, -, -⟩ := aut_parts (autL_mem hi)
      exact h3.1
    · rw [show atL xs = [] by simp [atL, hb]] at hi
      simp at hi
  obtain ⟨F, hF⟩ : ∃ F, F = atL xs := ⟨_, rfl⟩
  obtain ⟨fb, hfb⟩ : ∃ b, b = atB xs := ⟨_, rfl⟩
  rw [← hF, ← hfb] at AT hFp
  rw [← hF] at hFl hFr
  have HFR := Lib.hid hFr
  clear hF hfb hFr
  have q3 := cell_of_one X3.box
  go_wp2_with fail
  rw [← HW3.out]
  refine (AT.out _ X3.own.ints).mono ?_; rintro e w4 ⟨al, cl, vs, rfl, o4, b4⟩
  have X4 := X3.below b4
  have hB4 := X3.cw.lt
  have hw3 := X3.bel.size
  clear X3 b4 q3 AT
  cases fb with
  | true =>
    have hpos := hFp rfl
    have hposi : (0 : Int) < F.length := by omega
    clear hFp
    go_wp2_with fail
    refine (CN.out cb _ _ X4.cw (by omega)).mono ?_; rintro e w5 ⟨b, rfl, hc5, g5⟩
    have X5 := X4.grown hc5 g5
    have o5 := o4.cur g5 hB4
    clear X4 o4 hc5 g5
    cases b with
    | true =>
      clear o5
      go_wp2_with fail
      have al6 := (Below.refl w5.heap.size w5).alloc (Nat.le_refl _) (.cells #[] 3)
      have o6 := OwnI.made_at (w := w5) (B := w5.heap.size) (n := w5.heap.size) rfl (Nat.le_refl _)
      have hcbl := X5.cw.lt
      have hbxl : w2.heap.size < w5.heap.size := lt_of_block X5.box
      have hagl := fun x hx => (X5.own.lt x hx).2
      have hw0l := X5.cw.bel.size
      have hwsl := X5.bel.size
      have X6 := X5.below al6
      obtain ⟨B5, hB5⟩ : ∃ k, k = w5.heap.size := ⟨_, rfl⟩
      have o6' : OwnI (w5.alloc (.cells #[] 3)) B5 (some ⟨B5, 0, none⟩) 0 [] := by rw [hB5]; exact o6
      have hs6 : B5 ≤ (w5.alloc (.cells #[] 3)).heap.size := by rw [hB5]; simp
      rw [← hB5] at hcbl hbxl hagl hw0l hwsl
      have HB5 := Lib.hid hB5
      clear X5 al6 o6 hB5
      go_wp2_with fail
      rw [← HB5.out]
      go_loopw [8, 9] (fun vl vi wr => ∃ (k : Nat) (l : List Int) (al : Option Addr) (cl : Nat), k ≤ ordN xs ∧ vi = .int .i64 (k : Int) ∧ vl = .slice al l.length cl ∧ Hid (l.length = k) ∧ OwnI wr B5 al cl l ∧ B5 ≤ wr.heap.size ∧ Bx w W0 a n cap cb w2.heap.size ag cg w1.heap.size xs wr) (fun _ vi _ => ordN xs - (intOf vi).toNat)
      case atStart => exact ⟨0, [], _, _, by omega, rfl, rfl, Lib.hid rfl, o6', hs6, X6⟩
      case round =>
        clear o6' hs6 X6
        obtain ⟨k, l, al, cl, hk, rfl, rfl, hlk, ol, hsr, X7⟩ := hrel
        have q7 := cell_of_one X7.box
        go_wp2_with fail
        refine (HO.out _ X7.own.ints).mono ?_; rintro e w7 ⟨rfl, b7⟩
        have X8 := X7.below b7
        have o8 := ol.below b7 (Nat.le_refl _)
        have hs8 := Nat.le_trans hsr b7.size
        have q8 := cell_of_one X8.box
        clear X7 ol q7 b7 hsr
        by_cases hlt : k < ordN xs
        · have hki : (k : Int) < (ordN xs : Int) := by omega
          obtain ⟨v, hv24, NG⟩ := HNG.out k hlt
          have hk24 : k ≤ 24 := by have := HN24.out; omega
          have hlen2 : l.length ≤ 2000000 := by have := HN24.out; have := hlk.out; omega
          go_wp2_with fail
          refine (NG _ X8.own.ints).mono ?_; rintro e w9 ⟨rfl, b9⟩
          have X9 := X8.below b9
          have o9 := o8.below b9 (Nat.le_refl _)
          have hs9 := Nat.le_trans hs8 b9.size
          have hvw : (Lit.int .i64 (v : Int)).wf = true := wf_of (by omega) (by omega)
          clear X8 o8 q8 b9 hs8 NG
          go_wp2_with (at_builtin; refine wpList_app rfl _ _ rfl B5 _ _ l (v : Int) rfl rfl o9 hvw hlen2 hs9 ?_)
          intro a5 c5 w10 o10 hb10
          have hb' := hb10 w9 (Below.refl _ _)
          have X10 := X9.belowB hb' hcbl hbxl hagl hw0l
          have hs10 := Nat.le_trans hs9 hb'.size
          clear X9 o9 hb10 hb' hs9
          go_wp2_with fail
          go_roundw
          case rel => exact ⟨k + 1, l ++ [(v : Int)], a5, c5, by omega, by go_num, by simp, Lib.hid (by have := hlk.out; simp; omega), o10, hs10, X10⟩
          case measure => simp [intOf]; omega
        · have hki : ¬ ((k : Int) < (ordN xs : Int)) := by omega
          have h24 := HN24.out
          have hll : l.length ≤ 1000 := by have := hlk.out; omega
          clear hlk hlt hk
          by_cases hl1 : 1 < l.length
          · have hl1i : (1 : Int) < l.length := by omega
            go_wp2_with fail
            refine (CN.out cb _ _ X8.cw (by omega)).mono ?_; rintro e w9 ⟨b2, rfl, hc9, g9⟩
            have X9 := X8.grown hc9 g9
            have o9 := o8.cur g9 hcbl
            clear X8 o8 q8 g9 hc9
            cases b2 with
            | true =>
              have hl0 : 0 < l.length := by omega
              have hl0i : (0 : Int) < l.length := by omega
              obtain ⟨g, rfl, hgB, hgl⟩ := o9.addr hl0
              have d0 := o9.cell 0 hl0
              have d1 := o9.cell 1 hl1
              have f1 := o9.frozen 1
              have f0 := o9.frozen 0
              have hwf := o9.1 _ (List.getElem_mem hl0)
              obtain ⟨y0, hy0⟩ : ∃ y, y = l[0] := ⟨_, rfl⟩
              rw [← hy0] at d0 hwf
              have O10 := Lib.hid (o9.set 1 y0 hwf)
              have bs := (Below.refl B5 w9).setCell (p := ⟨g, 1, none⟩) hgB (.int .i64 y0)
              have X10 := X9.belowB bs hcbl hbxl hagl hw0l
              have q9 := cell_of_one X9.box
              have r9 := cell_of_one X9.res
              have f9 := free_of_one X9.res
              have HF := Lib.hid (X10.fin (.slice ag xs.length cg))
              have HO2 := Lib.hid ((O10.out.low (p := ⟨w.heap.size, 0, none⟩) (show w.heap.size < B5 by have := X10.w0s; omega) (.slice ag xs.length cg)).mono hwsl)
              clear bs hy0 hwf X9 X10 O10 o9
              go_wp2_with fail
              exact bodyPost_ret (v := .tuple #[.agg #[.slice ag xs.length cg], .slice (some ⟨g, 0, none⟩) l.length cl]) (by simp [results, Try.results26, go_sem, r9]) rfl ⟨xs, _, _, l.set 1 y0, _, cl, by simp, hxl, by simpa using hll, HF.out.1, HO2.out, HF.out.2⟩
            | false =>
              have q9 := cell_of_one X9.box
              have r9 := cell_of_one X9.res
              have f9 := free_of_one X9.res
              have HF := Lib.hid (X9.fin (.slice ag xs.length cg))
              have HO2 := Lib.hid ((o9.low (p := ⟨w.heap.size, 0, none⟩) (show w.heap.size < B5 by have := X9.w0s; omega) (.slice ag xs.length cg)).mono hwsl)
              clear X9 o9
              go_wp2_with fail
              exact bodyPost_ret (v := .tuple #[.agg #[.slice ag xs.length cg], .slice al l.length cl]) (by simp [results, Try.results26, go_sem, r9]) rfl ⟨xs, _, _, l, al, cl, rfl, hxl, hll, HF.out.1, HO2.out, HF.out.2⟩
          · have hl1i : ¬ ((1 : Int) < l.length) := by omega
            have X9 := X8
            have o9 := o8
            have q9 := q8
            clear X8 o8 q8
            have r9 := cell_of_one X9.res
            have f9 := free_of_one X9.res
            have HF := Lib.hid (X9.fin (.slice ag xs.length cg))
            have HO2 := Lib.hid ((o9.low (p := ⟨w.heap.size, 0, none⟩) (show w.heap.size < B5 by have := X9.w0s; omega) (.slice ag xs.length cg)).mono hwsl)
            clear X9 o9
            go_wp2_with fail
            exact bodyPost_ret (v := .tuple #[.agg #[.slice ag xs.length cg], .slice al l.length cl]) (by simp [results, Try.results26, go_sem, r9]) rfl ⟨xs, _, _, l, al, cl, rfl, hxl, hll, HF.out.1, HO2.out, HF.out.2⟩
    | false =>
      have q5 := cell_of_one X5.box
      have CL := Lib.hid (CB.out cb (F.length : Int) w5.drew X5.drew.cw (by omega))
      have HX := Lib.hid X5.drew
      have HOR := Lib.hid (show OwnR w5.drew W3.heap.size al cl F.length (fun i => F.getD i []) vs from ⟨o5.own, o5.row, o5.out, o5.dis⟩)
      clear X5 o5
      go_wp2_with fail
      go_region_with (go_at_call 99; refine CL.out.mono ?_; rintro e w6 ⟨x, rfl, hx, hc6, g6⟩; have X6 := HX.out.grown hc6 g6; have o6 := HOR.out.cur g6 hB4; have q6 := cell_of_one X6.box; have r6 := cell_of_one X6.res; have f6 := free_of_one X6.res; have hxF : x < F.length := (by omega); have hxi : (x : Int) < F.length := (by omega); obtain ⟨ai, ci, e1, i1⟩ := o6.row x hxF; have i2 : OwnI w6 W3.heap.size ai ci (F.getD x []) := i1; have e2 : vs[x]? = some (.slice ai (F.getD x []).length ci) := e1; obtain ⟨bb, off, ha, hbb, hcell⟩ := (o6.rd.cells.resolve_left (by omega)); subst ha; have d6 := (hcell x hxF).trans e2; have hbo := (o6.outLt bb rfl).1; have hw0s := X6.w0s; have hw0c := X6.cw.hcb; have hne1 : ¬ bb = w.heap.size := (by omega); have hne2 : ¬ w.heap.size = bb := (by omega); have hl24 := HFR.out x hxF; obtain ⟨r, hr⟩ : ∃ r, r = F.getD x [] := ⟨_, rfl⟩; rw [← hr] at i2 d6 hl24; clear hcell e1 e2 i1 hr hbo hw0s hw0c)
      all_goals
        have HF := Lib.hid (X6.fin (.slice ag xs.length cg))
        have HO2 := Lib.hid ((i2.low (p := ⟨w.heap.size, 0, none⟩) (show w.heap.size < W3.heap.size by have := X6.w0s; have := X6.cw.hcb; omega) (.slice ag xs.length cg)).mono hw3)
        clear X6 q6 o6 i2
        go_wp2_with fail
        exact bodyPost_ret (v := .tuple #[.agg #[.slice ag xs.length cg], .slice ai r.length ci]) (by simp [results, Try.results26, go_sem, r6]) rfl ⟨xs, _, _, r, ai, ci, rfl, hxl, by omega, HF.out.1, HO2.out, HF.out.2⟩
  | false =>
    have X5 := X4
    clear X4 o4 hFp
    go_wp2_with fail
    have al6 := (Below.refl w4.heap.size w4).alloc (Nat.le_refl _) (.cells #[] 3)
    have o6 := OwnI.made_at (w := w4) (B := w4.heap.size) (n := w4.heap.size) rfl (Nat.le_refl _)
    have hcbl := X5.cw.lt
    have hbxl : w2.heap.size < w4.heap.size := lt_of_block X5.box
    have hagl := fun x hx => (X5.own.lt x hx).2
    have hw0l := X5.cw.bel.size
    have hwsl := X5.bel.size
    have X6 := X5.below al6
    obtain ⟨B5, hB5⟩ : ∃ k, k = w4.heap.size := ⟨_, rfl⟩
    have o6' : OwnI (w4.alloc (.cells #[] 3)) B5 (some ⟨B5, 0, none⟩) 0 [] := by rw [hB5]; exact o6
    have hs6 : B5 ≤ (w4.alloc (.cells #[] 3)).heap.size := by rw [hB5]; simp
    rw [← hB5] at hcbl hbxl hagl hw0l hwsl
    have HB5 := Lib.hid hB5
    clear X5 al6 o6 hB5
    go_wp2_with fail
    rw [← HB5.out]
    go_loopw [8, 9] (fun vl vi wr => ∃ (k : Nat) (l : List Int) (al : Option Addr) (cl : Nat), k ≤ ordN xs ∧ vi = .int .i64 (k : Int) ∧ vl = .slice al l.length cl ∧ Hid (l.length = k) ∧ OwnI wr B5 al cl l ∧ B5 ≤ wr.heap.size ∧ Bx w W0 a n cap cb w2.heap.size ag cg w1.heap.size xs wr) (fun _ vi _ => ordN xs - (intOf vi).toNat)
    case atStart => exact ⟨0, [], _, _, by omega, rfl, rfl, Lib.hid rfl, o6', hs6, X6⟩
    case round =>
      clear o6' hs6 X6
      obtain ⟨k, l, al, cl, hk, rfl, rfl, hlk, ol, hsr, X7⟩ := hrel
      have q7 := cell_of_one X7.box
      go_wp2_with fail
      refine (HO.out _ X7.own.ints).mono ?_; rintro e w7 ⟨rfl, b7⟩
      have X8 := X7.below b7
      have o8 := ol.below b7 (Nat.le_refl _)
      have hs8 := Nat.le_trans hsr b7.size
      have q8 := cell_of_one X8.box
      clear X7 ol q7 b7 hsr
      by_cases hlt : k < ordN xs
      · have hki : (k : Int) < (ordN xs : Int) := by omega
        obtain ⟨v, hv24, NG⟩ := HNG.out k hlt
        have hk24 : k ≤ 24 := by have := HN24.out; omega
        have hlen2 : l.length ≤ 2000000 := by have := HN24.out; have := hlk.out; omega
        go_wp2_with fail
        refine (NG _ X8.own.ints).mono ?_; rintro e w9 ⟨rfl, b9⟩
        have X9 := X8.below b9
        have o9 := o8.below b9 (Nat.le_refl _)
        have hs9 := Nat.le_trans hs8 b9.size
        have hvw : (Lit.int .i64 (v : Int)).wf = true := wf_of (by omega) (by omega)
        clear X8 o8 q8 b9 hs8 NG
        go_wp2_with (at_builtin; refine wpList_app rfl _ _ rfl B5 _ _ l (v : Int) rfl rfl o9 hvw hlen2 hs9 ?_)
        intro a5 c5 w10 o10 hb10
        have hb' := hb10 w9 (Below.refl _ _)
        have X10 := X9.belowB hb' hcbl hbxl hagl hw0l
        have hs10 := Nat.le_trans hs9 hb'.size
        clear X9 o9 hb10 hb' hs9
        go_wp2_with fail
        go_roundw
        case rel => exact ⟨k + 1, l ++ [(v : Int)], a5, c5, by omega, by go_num, by simp, Lib.hid (by have := hlk.out; simp; omega), o10, hs10, X10⟩
        case measure => simp [intOf]; omega
      · have hki : ¬ ((k : Int) < (ordN xs : Int)) := by omega
        have h24 := HN24.out
        have hll : l.length ≤ 1000 := by have := hlk.out; omega
        clear hlk hlt hk
        by_cases hl1 : 1 < l.length
        · have hl1i : (1 : Int) < l.length := by omega
          go_wp2_with fail
          refine (CN.out cb _ _ X8.cw (by omega)).mono ?_; rintro e w9 ⟨b2, rfl, hc9, g9⟩
          have X9 := X8.grown hc9 g9
          have o9 := o8.cur g9 hcbl
          clear X8 o8 q8 g9 hc9
          cases b2 with
          | true =>
            have hl0 : 0 < l.length := by omega
            have hl0i : (0 : Int) < l.length := by omega
            obtain ⟨g, rfl, hgB, hgl⟩ := o9.addr hl0
            have d0 := o9.cell 0 hl0
            have d1 := o9.cell 1 hl1
            have f1 := o9.frozen 1
            have f0 := o9.frozen 0
            have hwf := o9.1 _ (List.getElem_mem hl0)
            obtain ⟨y0, hy0⟩ : ∃ y, y = l[0] := ⟨_, rfl⟩
            rw [← hy0] at d0 hwf
            have O10 := Lib.hid (o9.set 1 y0 hwf)
            have bs := (Below.refl B5 w9).setCell (p := ⟨g, 1, none⟩) hgB (.int .i64 y0)
            have X10 := X9.belowB bs hcbl hbxl hagl hw0l
            have q9 := cell_of_one X9.box
            have r9 := cell_of_one X9.res
            have f9 := free_of_one X9.res
            have HF := Lib.hid (X10.fin (.slice ag xs.length cg))
            have HO2 := Lib.hid ((O10.out.low (p := ⟨w.heap.size, 0, none⟩) (show w.heap.size < B5 by have := X10.w0s; omega) (.slice ag xs.length cg)).mono hwsl)
            clear bs hy0 hwf X9 X10 O10 o9
            go_wp2_with fail
            exact bodyPost_ret (v := .tuple #[.agg #[.slice ag xs.length cg], .slice (some ⟨g, 0, none⟩) l.length cl]) (by simp [results, Try.results26, go_sem, r9]) rfl ⟨xs, _, _, l.set 1 y0, _, cl, by simp, hxl, by simpa using hll, HF.out.1, HO2.out, HF.out.2⟩
          | false =>
            have q9 := cell_of_one X9.box
            have r9 := cell_of_one X9.res
            have f9 := free_of_one X9.res
            have HF := Lib.hid (X9.fin (.slice ag xs.length cg))
            have HO2 := Lib.hid ((o9.low (p := ⟨w.heap.size, 0, none⟩) (show w.heap.size < B5 by have := X9.w0s; omega) (.slice ag xs.length cg)).mono hwsl)
            clear X9 o9
            go_wp2_with fail
            exact bodyPost_ret (v := .tuple #[.agg #[.slice ag xs.length cg], .slice al l.length cl]) (by simp [results, Try.results26, go_sem, r9]) rfl ⟨xs, _, _, l, al, cl, rfl, hxl, hll, HF.out.1, HO2.out, HF.out.2⟩
        · have hl1i : ¬ ((1 : Int) < l.length) := by omega
          have X9 := X8
          have o9 := o8
          have q9 := q8
          clear X8 o8 q8
          have r9 := cell_of_one X9.res
          have f9 := free_of_one X9.res
          have HF := Lib.hid (X9.fin (.slice ag xs.length cg))
          have HO2 := Lib.hid ((o9.low (p := ⟨w.heap.size, 0, none⟩) (show w.heap.size < B5 by have := X9.w0s; omega) (.slice ag xs.length cg)).mono hwsl)
          clear X9 o9
          go_wp2_with fail
          exact bodyPost_ret (v := .tuple #[.agg #[.slice ag xs.length cg], .slice al l.length cl]) (by simp [results, Try.results26, go_sem, r9]) rfl ⟨xs, _, _, l, al, cl, rfl, hxl, hll, HF.out.1, HO2.out, HF.out.2⟩
set_option maxRecDepth 20000 in
set_option maxHeartbeats 3200000 in
theorem dImage_any (a : Option Addr) (cap n : Nat) (w : World) (hb : BtS w a cap n) (hn : n ≤ 2000000) :
    Calls Try.prog 27 #[.slice a n cap] w (DrewGLI w) := by
  have ha1 := (Below.refl w.heap.size w).alloc (Nat.le_refl _) (.cells #[.slice none 0 0] 26)
  obtain ⟨W0, hW0⟩ : ∃ W, W = w.alloc (.cells #[.slice none 0 0] 26) := ⟨_, rfl⟩
  rw [← hW0] at ha1
  have hb0 := hb.below ha1 (Nat.le_refl _)
  have C1 := Lib.hid (dIsAut_any a cap n W0 hb0 hn)
  have HW0 := Lib.hid hW0
  have HB0 := Lib.hid hb0
  clear hW0 hb hb0
  go_enter Try.func27, Try.ntmps27
  go_wp2_with fail
  rw [← HW0.out]
  refine C1.out.mono ?_; rintro e w1 ⟨xs, ag, cg, f, af, cf, rfl, hxl, hfl, og, of_, b1⟩
  have X2 := Rx.start HW0.out og b1
  have al := (Below.refl w1.heap.size w1).alloc (Nat.le_refl _) (.cells #[.slice ag xs.length cg] 26)
  have o2 := of_.below al (Nat.le_refl _)
  have hs1 := b1.size
  have bt2 := (HB0.out.below b1 (Nat.le_refl _)).below al (Nat.le_refl _)
  obtain ⟨W2, hW2⟩ : ∃ W, W = w1.alloc (.cells #[.slice ag xs.length cg] 26) := ⟨_, rfl⟩
  rw [← hW2] at X2 o2 bt2
  have q2 := cell_of_one X2.box
  have CN := Lib.hid (new_any a cap n W2.drew bt2 hn)
  have HX : Hid (Rx w w1.heap.size ag cg W0.heap.size xs W2.drew) := Lib.hid ⟨X2.box, X2.own, X2.res, below_drewR X2.bel, X2.hB2, X2.hbx2⟩
  have HOF : Hid (OwnI W2.drew W0.heap.size af cf f) := Lib.hid o2
  have HW2 := Lib.hid hW2
  clear X2 o2 bt2 hW2 al og of_ b1 C1
  go_wp2_with fail
  rw [← HW2.out]
  go_region_with (first | (go_at_call 74; refine CN.out.mono ?_; rintro e w3 ⟨cb, rfl, hc3⟩; have X3 := HX.out.below hc3.bel; have o3 := HOF.out.below hc3.bel (Nat.le_refl _); have q3 := cell_of_one X3.box; have r3 := cell_of_one X3.res; have f3 := free_of_one X3.res) | (go_at_call 95; refine (l3Set_any _ a cap n cb ag cg xs _ hc3 hn X3.own.ints (by omega)).mono ?_; rintro e w4 ⟨z, rfl, hz, hc4, g4⟩; have X4 := HX.out.below hc4.bel; have o4 := HOF.out.below hc4.bel (Nat.le_refl _); have q4 := cell_of_one X4.box; have r4 := cell_of_one X4.res; have f4 := free_of_one X4.res))
  all_goals
    have HF := Lib.hid (X4.fin (.slice ag xs.length cg))
    have HO2 := Lib.hid ((o4.low (p := ⟨w.heap.size, 0, none⟩) X4.hB2 (.slice ag xs.length cg)).mono (Nat.le_of_lt X4.hB2))
    clear X4 q4 o4 X3 q3 r3 f3 o3 hc3 hc4 g4
    go_wp2_with fail
    exact bodyPost_ret (v := .tuple #[.agg #[.slice ag xs.length cg], .slice af f.length cf, .int .i64 z]) (by simp [results, Try.results27, go_sem, r4]) rfl ⟨xs, _, _, f, af, cf, z, rfl, hxl, hfl, hz, HF.out.1, HO2.out, HF.out.2⟩
end Go.Proofs.Ytokpgbpdmfibjaa
