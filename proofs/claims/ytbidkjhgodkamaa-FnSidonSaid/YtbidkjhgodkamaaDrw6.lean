/-
The draws of FnSumFree: groups, sets without sums. Conditions: codes of at most 2000000 bytes.
-/
import Derived.Test.YtbidkjhgodkamaaDrw4
import Derived.Test.YtbidkjhgodkamaaSfr
import Derived.Deep.RegionLaw
namespace Go.Proofs.Ytbidkjhgodkamaa
open Go.RowKit Go.ChangeShapes
set_option linter.unusedVariables false

theorem CW.drew {w0 : World} {a : Option Addr} {n cap cb : Nat} {w : World} (h : CW w0 a n cap cb w) : CW w0 a n cap cb w.drew := ⟨h.bt, h.hcb, h.cur, ⟨h.bel.os, h.bel.tape, h.bel.output, h.bel.size, h.bel.block⟩⟩
theorem grown_drew {w w1 : World} {q : Option Nat} (h : w.grownBy w1 q) : w.grownBy w1.drew q := ⟨h.os, h.tape, h.output, h.size, h.block⟩
theorem grown_undrew {w w1 : World} {q : Option Nat} (h : w.drew.grownBy w1 q) : w.grownBy w1 q := ⟨h.os, h.tape, h.output, h.size, h.block⟩
set_option maxHeartbeats 1600000 in
theorem l21Group_any (w0 : World) (a : Option Addr) (cap n cb : Nat) (w : World) (hc : CW w0 a n cap cb w) (hn : n ≤ 2000000) :
    Calls Try.prog 167 #[.pointer (some ⟨cb, 0, none⟩)] w (GaveC Any4 w0 a n cap cb w) := by
  have hcbl := hc.lt
  have hw0 := hc.bel.size
  have ha1 := (Below.refl w.heap.size w).alloc (Nat.le_refl _) (.cells #[.slice none 0 0] 26)
  have CN := Lib.hid (once_any w0 a cap n cb 8 _ (hc.below ha1) hn (by omega))
  have hr0 := new_at (w := w) (n := w.heap.size) (o := .cells #[.slice none 0 0] 26) rfl
  have G0 : w.grownBy (w.alloc (.cells #[.slice none 0 0] 26)) (some cb) := grown_of ha1 _
  clear hc ha1
  go_enter Try.func167, Try.ntmps167
  go_wp2_with fail
  refine CN.out.mono ?_; rintro e w1 ⟨b, rfl, hc1, g1⟩
  have hr1 := one_grown hr0 g1 (by simp; omega)
  have G1 := grown_trans G0 g1
  have hs1 : w.heap.size + 1 ≤ w1.heap.size := by have := g1.size; simpa using this
  clear CN hr0 G0 g1
  cases b with
  | true =>
    go_wp2_with fail
    refine (l2Any_any w0 a cap n cb w1 hc1 hn).mono ?_; rintro e w2 ⟨xs, ag, cg, rfl, hxs, og, hc2, g2⟩
    have hr2 := one_grown hr1 g2 (by simp; omega)
    have G2 := grown_trans G1 g2
    have hF := fin_g hc2 G2 hcbl hw0 og (by omega) (.slice ag xs.length cg)
    have HF := Lib.hid hF
    have q0 := cell_of_one hr2
    have f0 := free_of_one hr2
    clear hF og hc2 hr1 hr2 G1 G2 g2
    go_wp2_with fail
    exact bodyPost_ret (v := .agg #[.slice ag xs.length cg]) (by simp [results, Try.results167, go_sem, q0]) rfl ⟨xs, _, _, rfl, hxs, HF.out⟩
  | false =>
    go_wp2_with fail
    refine (l2Draw_any w0 a cap n cb 12 w1 hc1 hn (by omega) (by omega)).mono ?_; rintro e w2 ⟨xs, ag, cg, rfl, hxs, og, hc2, g2⟩
    have hr2 := one_grown hr1 g2 (by simp; omega)
    have G2 := grown_trans G1 g2
    have hF := fin_g hc2 G2 hcbl hw0 og (by omega) (.slice ag xs.length cg)
    have HF := Lib.hid hF
    have HXL := Lib.hid (grp_parts hxs).1
    have q0 := cell_of_one hr2
    have f0 := free_of_one hr2
    clear hF og hc2 hr1 hr2 G1 G2 g2 hxs
    go_wp2_with fail
    exact bodyPost_ret (v := .agg #[.slice ag xs.length cg]) (by simp [results, Try.results167, go_sem, q0]) rfl ⟨xs, _, _, rfl, (by have := HXL.out; unfold Any4; omega), HF.out⟩

/-- What a public draw of a group leaves. -/
def DrewG (w : World) (e : Ending) (w' : World) : Prop :=
  ∃ (xs : List Int) (ag : Option Addr) (cg : Nat), e = .returned (.agg #[.slice ag xs.length cg]) ∧ xs.length ≤ 4 ∧ OwnI w' w.heap.size ag cg xs ∧ Below w.heap.size w w'
/-- What a public draw of a group and a number leaves. -/
def DrewGI (w : World) (e : Ending) (w' : World) : Prop :=
  ∃ (xs : List Int) (ag : Option Addr) (cg : Nat) (x : Int), e = .returned (.tuple #[.agg #[.slice ag xs.length cg], .int .i64 x]) ∧ xs.length ≤ 4 ∧ (Lit.int .i64 x).wf = true ∧ OwnI w' w.heap.size ag cg xs ∧ Below w.heap.size w w'
/-- The cursor, the group in its box and the result's cell. -/
structure Bx (w w0 : World) (a : Option Addr) (n cap cb bx : Nat) (ag : Option Addr) (cg B : Nat) (xs : List Int) (W : World) : Prop where
  cw : CW w0 a n cap cb W
  box : W.heap[bx]? = some (.cells #[.slice ag xs.length cg] 26 (0, 0))
  own : OwnI W B ag cg xs
  res : W.heap[w.heap.size]? = some (.cells #[.slice none 0 0] 26 (0, 0))
  bel : Below w.heap.size w W
  w0s : w.heap.size < w0.heap.size
  hB : cb < B
  hB2 : w.heap.size < B
  hbx : bx ≠ cb
  hbx2 : bx ≠ w.heap.size
theorem Bx.below {w w0 : World} {a : Option Addr} {n cap cb bx : Nat} {ag : Option Addr} {cg B : Nat} {xs : List Int} {W W1 : World} (h : Bx w w0 a n cap cb bx ag cg B xs W) (hb : Below W.heap.size W W1) : Bx w w0 a n cap cb bx ag cg B xs W1 :=
  ⟨h.cw.below hb, one_below h.box hb (Nat.le_refl _), h.own.below hb (Nat.le_refl _), one_below h.res hb (Nat.le_refl _), nxB h.bel hb h.bel.size, h.w0s, h.hB, h.hB2, h.hbx, h.hbx2⟩
theorem Bx.grown {w w0 : World} {a : Option Addr} {n cap cb bx : Nat} {ag : Option Addr} {cg B : Nat} {xs : List Int} {W W1 : World} (h : Bx w w0 a n cap cb bx ag cg B xs W) (hc : CW w0 a n cap cb W1) (hg : W.grownBy W1 (some cb)) : Bx w w0 a n cap cb bx ag cg B xs W1 :=
  ⟨hc, one_grown h.box hg (by simpa using h.hbx), h.own.cur hg h.hB, one_grown h.res hg (by have := hc.hcb; have := h.w0s; simp; omega), h.bel.grown hg h.bel.size (fun k hk => by cases hk; have := hc.hcb; have := h.w0s; omega), h.w0s, h.hB, h.hB2, h.hbx, h.hbx2⟩
theorem Bx.drew {w w0 : World} {a : Option Addr} {n cap cb bx : Nat} {ag : Option Addr} {cg B : Nat} {xs : List Int} {W : World} (h : Bx w w0 a n cap cb bx ag cg B xs W) : Bx w w0 a n cap cb bx ag cg B xs W.drew :=
  ⟨h.cw.drew, h.box, h.own, h.res, ⟨h.bel.os, h.bel.tape, h.bel.output, h.bel.size, h.bel.block⟩, h.w0s, h.hB, h.hB2, h.hbx, h.hbx2⟩
/-- The end. -/
theorem Bx.fin {w w0 : World} {a : Option Addr} {n cap cb bx : Nat} {ag : Option Addr} {cg B : Nat} {xs : List Int} {W : World} (h : Bx w w0 a n cap cb bx ag cg B xs W) (V : Value) :
    OwnI (W.setCell ⟨w.heap.size, 0, none⟩ V) w.heap.size ag cg xs ∧ Below w.heap.size w (W.setCell ⟨w.heap.size, 0, none⟩ V) :=
  ⟨OwnI.mono ⟨h.own.1, ownsRow_setCell_below h.own.2 h.hB2 V⟩ (by have := h.hB2; omega), h.bel.setCell (Nat.le_refl _) V⟩
/-- At the beginning. -/
theorem Bx.start {w w0 : World} {a : Option Addr} {n cap cb : Nat} {ag : Option Addr} {cg B : Nat} {xs : List Int} {W : World} (hw0 : w0 = w.alloc (.cells #[.slice none 0 0] 26)) (hc : CW w0 a n cap cb W) (ho : OwnI W B ag cg xs) (hB : cb < B) : Bx w w0 a n cap cb W.heap.size ag cg B xs (W.alloc (.cells #[.slice ag xs.length cg] 26)) := by
  have al := (Below.refl W.heap.size W).alloc (Nat.le_refl _) (.cells #[.slice ag xs.length cg] 26)
  have hr0 := new_at (w := w) (n := w.heap.size) (o := .cells #[.slice none 0 0] 26) rfl
  rw [← hw0] at hr0
  have hs : w0.heap.size = w.heap.size + 1 := by rw [hw0]; simp
  have ha : Below w.heap.size w w0 := by rw [hw0]; exact (Below.refl w.heap.size w).alloc (Nat.le_refl _) _
  have hr1 := one_below hr0 hc.bel (Nat.le_refl _)
  have := hc.hcb
  have := hc.bel.size
  have := hc.lt
  exact ⟨hc.below al, new_at rfl, ho.below al (Nat.le_refl _), one_below hr1 al (Nat.le_refl _), nxB (ha.trans (hc.bel.mono (by omega))) al (by omega), by omega, hB, by omega, by omega, by omega⟩
set_option maxRecDepth 20000 in
set_option maxHeartbeats 3200000 in
theorem l21Set_any (a : Option Addr) (cap n : Nat) (w : World) (hb : BtS w a cap n) (hn : n ≤ 2000000) :
    Calls Try.prog 182 #[.slice a n cap] w (DrewGI w) := by
  have ha1 := (Below.refl w.heap.size w).alloc (Nat.le_refl _) (.cells #[.slice none 0 0] 26)
  obtain ⟨W0, hW0⟩ : ∃ W, W = w.alloc (.cells #[.slice none 0 0] 26) := ⟨_, rfl⟩
  rw [← hW0] at ha1
  have C1 := Lib.hid (new_any a cap n W0 (hb.below ha1 (Nat.le_refl _)) hn)
  have CB := Lib.hid (fun cb (N : Int) w hc (hN : N ≤ 2000000000) => below_any W0 a cap n cb N w hc hn hN)
  have CN := Lib.hid (fun cb (N : Int) w hc (hN : N ≤ 2000000000) => once_any W0 a cap n cb N w hc hn hN)
  have HW0 := Lib.hid hW0
  clear hW0 hb ha1
  go_enter Try.func182, Try.ntmps182
  go_wp2_with fail
  rw [← HW0.out]
  refine C1.out.mono ?_; rintro e w1 ⟨cb, rfl, hc1⟩
  have hcb1 := hc1.lt
  have CG := Lib.hid (l21Group_any W0 a cap n cb w1 hc1 hn)
  clear C1 hc1
  go_wp2_with fail
  refine CG.out.mono ?_; rintro e w2 ⟨xs, ag, cg, rfl, hxs, og, hc2, g2⟩
  have X3 := Bx.start HW0.out hc2 og hcb1
  have hxl : xs.length ≤ 4 := hxs
  obtain ⟨W3, hW3⟩ : ∃ W, W = w2.alloc (.cells #[.slice ag xs.length cg] 26) := ⟨_, rfl⟩
  rw [← hW3] at X3
  have HW3 := Lib.hid hW3
  clear hW3 CG og hc2 g2 hxs
  go_wp2_with fail
  rw [← HW3.out]
  refine (CN.out cb _ _ X3.cw (by omega)).mono ?_; rintro e w4 ⟨b, rfl, hc4, g4⟩
  have X4 := X3.grown hc4 g4
  clear X3 hc4 g4
  cases b with
  | true =>
    have q4 := cell_of_one X4.box
    have CL := Lib.hid (l3Set_any W0 a cap n cb ag cg xs w4.drew X4.drew.cw hn X4.drew.own.ints (by omega))
    have HX := Lib.hid X4.drew
    clear X4
    go_wp2_with fail
    go_region_with (go_at_call 181; refine CL.out.mono ?_; rintro e w5 ⟨z, rfl, hz, hc5, g5⟩; have X5 := HX.out.grown hc5 g5; have q5 := cell_of_one X5.box; have q6 := cell_of_one X5.res; have f6 := free_of_one X5.res)
    all_goals
      have HF := Lib.hid (X5.fin (.slice ag xs.length cg))
      clear X5 q5
      go_wp2_with fail
      exact bodyPost_ret (v := .tuple #[.agg #[.slice ag xs.length cg], .int .i64 z]) (by simp [results, Try.results182, go_sem, q6]) rfl ⟨xs, _, _, z, rfl, hxl, hz, HF.out⟩
  | false =>
    have q4 := cell_of_one X4.box
    go_wp2_with fail
    refine (CB.out cb _ _ X4.cw (by omega)).mono ?_; rintro e w5 ⟨k0, rfl, hk0, hc5, g5⟩
    have X5 := X4.grown hc5 g5
    have hk8 : k0 < 8 := by omega
    have IG := Lib.hid (fun w h => isGroup_spec ag cg xs w h (by omega))
    clear X4 hc5 g5 q4 hk0
    cases hg : grpB xs with
    | true =>
      obtain ⟨p1, p2, p3, p4⟩ := grp_parts hg
      have HO := Lib.hid (fun w h => l2Order_any ag cg xs w h hg)
      obtain ⟨gl, hgl⟩ := Int.eq_ofNat_of_zero_le (show 0 ≤ gord xs by omega)
      rw [hgl] at HO p3 p4
      rw [hg] at IG
      have HFR := Lib.hid (fun (a : Nat) w h (ha : a < 16777216) => l21Free_any ag cg xs a w h hg ha)
      clear hg hgl p1 p2
      go_wp2_with fail
      go_loopw [6, 7, 8] (fun va vk _ wr => ∃ (s k : Nat), s < 16777216 ∧ k ≤ 7 ∧ va = .int .i64 (s : Int) ∧ vk = .int .i64 (k : Int) ∧ Bx w W0 a n cap cb w2.heap.size ag cg w1.heap.size xs wr) (fun _ vk _ _ => (intOf vk).toNat)
      case atStart => exact ⟨0, k0, by omega, by omega, rfl, rfl, X5⟩
      case round =>
        clear X5
        obtain ⟨s, k, hs, hk, rfl, rfl, X6⟩ := hrel
        have q6 := cell_of_one X6.box
        by_cases hk0 : 0 < k
        · have hk0i : (0 : Int) < k := by omega
          have hkk : (k : Int) - 1 = ((k - 1 : Nat) : Int) := by omega
          go_wp2_with fail
          refine (IG.out _ X6.own.ints).mono ?_; rintro e w7 ⟨rfl, b7⟩
          have X7 := X6.below b7
          have q7 := cell_of_one X7.box
          clear X6 q6 b7
          go_wp2_with fail
          refine (HO.out _ X7.own.ints).mono ?_; rintro e w8 ⟨rfl, b8⟩
          have X8 := X7.below b8
          have q8 := cell_of_one X8.box
          clear X7 q7 b8
          go_wp2_with fail
          refine (CB.out cb _ _ X8.cw (by omega)).mono ?_; rintro e w9 ⟨x, rfl, hx, hc9, g9⟩
          have X9 := X8.grown hc9 g9
          have q9 := cell_of_one X9.box
          have hx24 : x < 24 := by omega
          obtain ⟨T, hT, hTl, hw, hor⟩ := or_one s x hs hx24
          have hs2 : s ||| T < 16777216 := by
            rw [hT]
            have : s ||| 2 ^ x < 2 ^ 24 := Nat.or_lt_two_pow (by simpa using hs) (Nat.pow_lt_pow_right (by decide) hx24)
            simpa using this
          obtain ⟨S2, hS2⟩ : ∃ t, t = s ||| T := ⟨_, rfl⟩
          rw [← hS2] at hor hs2
          clear hT hS2 hx g9 hc9 X8 q8
          go_wp2_with fail
          refine (HFR.out S2 _ X9.own.ints hs2).mono ?_; rintro e w10 ⟨rfl, b10⟩
          have X10 := X9.below b10
          clear X9 q9 b10
          cases freeB xs S2 with
          | true =>
            go_wp2_with fail
            go_roundw
            case rel => exact ⟨S2, k - 1, hs2, by omega, rfl, by first | rfl | rw [hkk], X10⟩
            case measure => simp [intOf]; omega
          | false =>
            go_wp2_with fail
            go_roundw
            case rel => exact ⟨s, k - 1, hs, by omega, rfl, by first | rfl | rw [hkk], X10⟩
            case measure => simp [intOf]; omega
        · have hkz : (k : Int) ≤ 0 := by omega
          have q6' := cell_of_one X6.res
          have f6' := free_of_one X6.res
          have HF := Lib.hid (X6.fin (.slice ag xs.length cg))
          clear X6
          go_wp2_with fail
          exact bodyPost_ret (v := .tuple #[.agg #[.slice ag xs.length cg], .int .i64 (s : Int)]) (by simp [results, Try.results182, go_sem, q6']) rfl ⟨xs, _, _, _, rfl, hxl, wf_of (by omega) (by omega), HF.out⟩
    | false =>
      rw [hg] at IG
      clear hg
      go_wp2_with fail
      go_loopw [6, 7, 8] (fun va vk _ wr => ∃ (k : Nat), k ≤ 7 ∧ va = .int .i64 0 ∧ vk = .int .i64 (k : Int) ∧ Bx w W0 a n cap cb w2.heap.size ag cg w1.heap.size xs wr) (fun _ vk _ _ => (intOf vk).toNat)
      case atStart => exact ⟨k0, by omega, rfl, rfl, X5⟩
      case round =>
        clear X5
        obtain ⟨k, hk, rfl, rfl, X6⟩ := hrel
        have q6 := cell_of_one X6.box
        by_cases hk0 : 0 < k
        · have hk0i : (0 : Int) < k := by omega
          go_wp2_with fail
          refine (IG.out _ X6.own.ints).mono ?_; rintro e w7 ⟨rfl, b7⟩
          have X7 := X6.below b7
          have q7 := cell_of_one X7.box
          have q6' := cell_of_one X7.res
          have f6' := free_of_one X7.res
          have HF := Lib.hid (X7.fin (.slice ag xs.length cg))
          clear X6 q6 b7 X7
          go_wp2_with fail
          exact bodyPost_ret (v := .tuple #[.agg #[.slice ag xs.length cg], .int .i64 0]) (by simp [results, Try.results182, go_sem, q6']) rfl ⟨xs, _, _, _, rfl, hxl, by decide, HF.out⟩
        · have hkz : (k : Int) ≤ 0 := by omega
          have q6' := cell_of_one X6.res
          have f6' := free_of_one X6.res
          have HF := Lib.hid (X6.fin (.slice ag xs.length cg))
          clear X6
          go_wp2_with fail
          exact bodyPost_ret (v := .tuple #[.agg #[.slice ag xs.length cg], .int .i64 0]) (by simp [results, Try.results182, go_sem, q6']) rfl ⟨xs, _, _, _, rfl, hxl, by decide, HF.out⟩
end Go.Proofs.Ytbidkjhgodkamaa
