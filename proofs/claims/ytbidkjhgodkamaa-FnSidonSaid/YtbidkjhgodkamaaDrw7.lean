/-
The public draws of FnSumFree. Conditions: codes of at most 2000000 bytes.
-/
import Derived.Test.YtbidkjhgodkamaaDrw6
namespace Go.Proofs.Ytbidkjhgodkamaa
open Go.RowKit Go.ChangeShapes
set_option linter.unusedVariables false

/-- A drawn group in its box and the result's cell. -/
structure Rx (w : World) (bx : Nat) (ag : Option Addr) (cg B : Nat) (xs : List Int) (W : World) : Prop where
  box : W.heap[bx]? = some (.cells #[.slice ag xs.length cg] 26 (0, 0))
  own : OwnI W B ag cg xs
  res : W.heap[w.heap.size]? = some (.cells #[.slice none 0 0] 26 (0, 0))
  bel : Below w.heap.size w W
  hB2 : w.heap.size < B
  hbx2 : bx ≠ w.heap.size
theorem Rx.below {w : World} {bx : Nat} {ag : Option Addr} {cg B : Nat} {xs : List Int} {W W1 : World} (h : Rx w bx ag cg B xs W) (hb : Below W.heap.size W W1) : Rx w bx ag cg B xs W1 :=
  ⟨one_below h.box hb (Nat.le_refl _), h.own.below hb (Nat.le_refl _), one_below h.res hb (Nat.le_refl _), nxB h.bel hb h.bel.size, h.hB2, h.hbx2⟩
theorem Rx.fin {w : World} {bx : Nat} {ag : Option Addr} {cg B : Nat} {xs : List Int} {W : World} (h : Rx w bx ag cg B xs W) (V : Value) :
    OwnI (W.setCell ⟨w.heap.size, 0, none⟩ V) w.heap.size ag cg xs ∧ Below w.heap.size w (W.setCell ⟨w.heap.size, 0, none⟩ V) :=
  ⟨OwnI.mono ⟨h.own.1, ownsRow_setCell_below h.own.2 h.hB2 V⟩ (by have := h.hB2; omega), h.bel.setCell (Nat.le_refl _) V⟩
theorem Rx.start {w w0 : World} {ag : Option Addr} {cg : Nat} {xs : List Int} {W : World} (hw0 : w0 = w.alloc (.cells #[.slice none 0 0] 26)) (ho : OwnI W w0.heap.size ag cg xs) (hb : Below w0.heap.size w0 W) : Rx w W.heap.size ag cg w0.heap.size xs (W.alloc (.cells #[.slice ag xs.length cg] 26)) := by
  have al := (Below.refl W.heap.size W).alloc (Nat.le_refl _) (.cells #[.slice ag xs.length cg] 26)
  have hr0 := new_at (w := w) (n := w.heap.size) (o := .cells #[.slice none 0 0] 26) rfl
  rw [← hw0] at hr0
  have hs : w0.heap.size = w.heap.size + 1 := by rw [hw0]; simp
  have ha : Below w.heap.size w w0 := by rw [hw0]; exact (Below.refl w.heap.size w).alloc (Nat.le_refl _) _
  have hr1 := one_below hr0 hb (Nat.le_refl _)
  have := hb.size
  exact ⟨new_at rfl, ho.below al (Nat.le_refl _), one_below hr1 al (Nat.le_refl _), nxB (ha.trans (hb.mono (by omega))) al (by omega), by omega, by omega⟩
theorem lvLSF_lt (os : List Int) : lvLargestSumFree os < 16777216 := by
  unfold lvLargestSumFree
  split
  · rename_i h
    obtain ⟨g2, g3, g4, g5, g6⟩ := grp_gn (show grpB os = true by simp only [bLargestSumFree, Bool.and_eq_true] at h; exact h.1)
    have h1 := lgGo_lt (freeB os) (gn os) (gn os - 1) 0 0 (by omega) (Nat.two_pow_pos _) (Nat.two_pow_pos _)
    exact lt24_of g4 h1
  · decide
set_option maxHeartbeats 1600000 in
theorem dLargestSF_any (a : Option Addr) (cap n : Nat) (w : World) (hb : BtS w a cap n) (hn : n ≤ 2000000) :
    Calls Try.prog 12 #[.slice a n cap] w (DrewG w) := by
  have ha1 := (Below.refl w.heap.size w).alloc (Nat.le_refl _) (.cells #[.slice none 0 0] 26)
  have hr0 := new_at (w := w) (n := w.heap.size) (o := .cells #[.slice none 0 0] 26) rfl
  obtain ⟨W0, hW0⟩ : ∃ W, W = w.alloc (.cells #[.slice none 0 0] 26) := ⟨_, rfl⟩
  rw [← hW0] at ha1 hr0
  have hs0 : W0.heap.size = w.heap.size + 1 := by rw [hW0]; simp
  have C1 := Lib.hid (new_any a cap n W0 (hb.below ha1 (Nat.le_refl _)) hn)
  have HW0 := Lib.hid hW0
  clear hW0 hb
  go_enter Try.func12, Try.ntmps12
  go_wp2_with fail
  rw [← HW0.out]
  refine C1.out.mono ?_; rintro e w1 ⟨cb, rfl, hc1⟩
  have hs1 := hc1.bel.size
  have CG := Lib.hid (l21Group_any W0 a cap n cb w1 hc1 hn)
  have hcbw := hc1.hcb
  have hlt1 : w.heap.size < w1.heap.size := by omega
  clear C1
  go_wp2_with fail
  refine CG.out.mono ?_; rintro e w2 ⟨xs, ag, cg, rfl, hxs, og, hc2, g2⟩
  have hr2 := one_below hr0 hc2.bel (Nat.le_refl _)
  have B2 := ha1.trans (hc2.bel.mono (show w.heap.size ≤ W0.heap.size by omega))
  have HF : OwnI (w2.setCell ⟨w.heap.size, 0, none⟩ (.slice ag xs.length cg)) w.heap.size ag cg xs ∧ Below w.heap.size w (w2.setCell ⟨w.heap.size, 0, none⟩ (.slice ag xs.length cg)) :=
    ⟨OwnI.mono ⟨og.1, ownsRow_setCell_below og.2 hlt1 _⟩ (by omega), B2.setCell (Nat.le_refl _) _⟩
  have HFH := Lib.hid HF
  have hxl : xs.length ≤ 4 := hxs
  have q0 := cell_of_one hr2
  have f0 := free_of_one hr2
  clear HF og hc2 hr0 hr2 g2 B2 ha1 hs0 hs1 hc1
  go_wp2_with fail
  exact bodyPost_ret (v := .agg #[.slice ag xs.length cg]) (by simp [results, Try.results12, go_sem, q0]) rfl ⟨xs, _, _, rfl, hxl, HFH.out⟩
set_option maxHeartbeats 1600000 in
theorem dCountSF_any (a : Option Addr) (cap n : Nat) (w : World) (hb : BtS w a cap n) (hn : n ≤ 2000000) :
    Calls Try.prog 23 #[.slice a n cap] w (DrewG w) := by
  have ha1 := (Below.refl w.heap.size w).alloc (Nat.le_refl _) (.cells #[.slice none 0 0] 26)
  have hr0 := new_at (w := w) (n := w.heap.size) (o := .cells #[.slice none 0 0] 26) rfl
  obtain ⟨W0, hW0⟩ : ∃ W, W = w.alloc (.cells #[.slice none 0 0] 26) := ⟨_, rfl⟩
  rw [← hW0] at ha1 hr0
  have hs0 : W0.heap.size = w.heap.size + 1 := by rw [hW0]; simp
  have C1 := Lib.hid (new_any a cap n W0 (hb.below ha1 (Nat.le_refl _)) hn)
  have HW0 := Lib.hid hW0
  clear hW0 hb
  go_enter Try.func23, Try.ntmps23
  go_wp2_with fail
  rw [← HW0.out]
  refine C1.out.mono ?_; rintro e w1 ⟨cb, rfl, hc1⟩
  have hs1 := hc1.bel.size
  have CG := Lib.hid (l21Group_any W0 a cap n cb w1 hc1 hn)
  have hcbw := hc1.hcb
  have hlt1 : w.heap.size < w1.heap.size := by omega
  clear C1
  go_wp2_with fail
  refine CG.out.mono ?_; rintro e w2 ⟨xs, ag, cg, rfl, hxs, og, hc2, g2⟩
  have hr2 := one_below hr0 hc2.bel (Nat.le_refl _)
  have B2 := ha1.trans (hc2.bel.mono (show w.heap.size ≤ W0.heap.size by omega))
  have HF : OwnI (w2.setCell ⟨w.heap.size, 0, none⟩ (.slice ag xs.length cg)) w.heap.size ag cg xs ∧ Below w.heap.size w (w2.setCell ⟨w.heap.size, 0, none⟩ (.slice ag xs.length cg)) :=
    ⟨OwnI.mono ⟨og.1, ownsRow_setCell_below og.2 hlt1 _⟩ (by omega), B2.setCell (Nat.le_refl _) _⟩
  have HFH := Lib.hid HF
  have hxl : xs.length ≤ 4 := hxs
  have q0 := cell_of_one hr2
  have f0 := free_of_one hr2
  clear HF og hc2 hr0 hr2 g2 B2 ha1 hs0 hs1 hc1
  go_wp2_with fail
  exact bodyPost_ret (v := .agg #[.slice ag xs.length cg]) (by simp [results, Try.results23, go_sem, q0]) rfl ⟨xs, _, _, rfl, hxl, HFH.out⟩
set_option maxHeartbeats 1600000 in
theorem dMiddle_any (a : Option Addr) (cap n : Nat) (w : World) (hb : BtS w a cap n) (hn : n ≤ 2000000) :
    Calls Try.prog 28 #[.slice a n cap] w (DrewG w) := by
  have ha1 := (Below.refl w.heap.size w).alloc (Nat.le_refl _) (.cells #[.slice none 0 0] 26)
  have hr0 := new_at (w := w) (n := w.heap.size) (o := .cells #[.slice none 0 0] 26) rfl
  obtain ⟨W0, hW0⟩ : ∃ W, W = w.alloc (.cells #[.slice none 0 0] 26) := ⟨_, rfl⟩
  rw [← hW0] at ha1 hr0
  have hs0 : W0.heap.size = w.heap.size + 1 := by rw [hW0]; simp
  have C1 := Lib.hid (new_any a cap n W0 (hb.below ha1 (Nat.le_refl _)) hn)
  have HW0 := Lib.hid hW0
  clear hW0 hb
  go_enter Try.func28, Try.ntmps28
  go_wp2_with fail
  rw [← HW0.out]
  refine C1.out.mono ?_; rintro e w1 ⟨cb, rfl, hc1⟩
  have hs1 := hc1.bel.size
  have CG := Lib.hid (l2Any_any W0 a cap n cb w1 hc1 hn)
  have hcbw := hc1.hcb
  have hlt1 : w.heap.size < w1.heap.size := by omega
  clear C1
  go_wp2_with fail
  refine CG.out.mono ?_; rintro e w2 ⟨xs, ag, cg, rfl, hxs, og, hc2, g2⟩
  have hr2 := one_below hr0 hc2.bel (Nat.le_refl _)
  have B2 := ha1.trans (hc2.bel.mono (show w.heap.size ≤ W0.heap.size by omega))
  have HF : OwnI (w2.setCell ⟨w.heap.size, 0, none⟩ (.slice ag xs.length cg)) w.heap.size ag cg xs ∧ Below w.heap.size w (w2.setCell ⟨w.heap.size, 0, none⟩ (.slice ag xs.length cg)) :=
    ⟨OwnI.mono ⟨og.1, ownsRow_setCell_below og.2 hlt1 _⟩ (by omega), B2.setCell (Nat.le_refl _) _⟩
  have HFH := Lib.hid HF
  have hxl : xs.length ≤ 4 := hxs
  have q0 := cell_of_one hr2
  have f0 := free_of_one hr2
  clear HF og hc2 hr0 hr2 g2 B2 ha1 hs0 hs1 hc1
  go_wp2_with fail
  exact bodyPost_ret (v := .agg #[.slice ag xs.length cg]) (by simp [results, Try.results28, go_sem, q0]) rfl ⟨xs, _, _, rfl, hxl, HFH.out⟩
set_option maxHeartbeats 1600000 in
theorem dIsSF_any (a : Option Addr) (cap n : Nat) (w : World) (hb : BtS w a cap n) (hn : n ≤ 2000000) :
    Calls Try.prog 27 #[.slice a n cap] w (DrewGI w) := by
  have ha1 := (Below.refl w.heap.size w).alloc (Nat.le_refl _) (.cells #[.slice none 0 0] 26)
  have hr0 := new_at (w := w) (n := w.heap.size) (o := .cells #[.slice none 0 0] 26) rfl
  obtain ⟨W0, hW0⟩ : ∃ W, W = w.alloc (.cells #[.slice none 0 0] 26) := ⟨_, rfl⟩
  rw [← hW0] at ha1 hr0
  have C1 := Lib.hid (l21Set_any a cap n W0 (hb.below ha1 (Nat.le_refl _)) hn)
  have HW0 := Lib.hid hW0
  clear hb
  go_enter Try.func27, Try.ntmps27
  go_wp2_with fail
  rw [← HW0.out]
  refine C1.out.mono ?_; rintro e w1 ⟨xs, ag, cg, z, rfl, hxl, hz, og, b1⟩
  have X2 := Rx.start hW0 og b1
  clear og b1 hr0 ha1 C1 hW0
  have q2 := cell_of_one X2.box
  have q3 := cell_of_one X2.res
  have f3 := free_of_one X2.res
  have HF := Lib.hid (X2.fin (.slice ag xs.length cg))
  clear X2
  go_wp2_with fail
  exact bodyPost_ret (v := .tuple #[.agg #[.slice ag xs.length cg], .int .i64 z]) (by simp [results, Try.results27, go_sem, q3]) rfl ⟨xs, _, _, _, rfl, hxl, hz, HF.out⟩
set_option maxHeartbeats 1600000 in
theorem dIsCSF_any (a : Option Addr) (cap n : Nat) (w : World) (hb : BtS w a cap n) (hn : n ≤ 2000000) :
    Calls Try.prog 25 #[.slice a n cap] w (DrewGI w) := by
  have ha1 := (Below.refl w.heap.size w).alloc (Nat.le_refl _) (.cells #[.slice none 0 0] 26)
  have hr0 := new_at (w := w) (n := w.heap.size) (o := .cells #[.slice none 0 0] 26) rfl
  obtain ⟨W0, hW0⟩ : ∃ W, W = w.alloc (.cells #[.slice none 0 0] 26) := ⟨_, rfl⟩
  rw [← hW0] at ha1 hr0
  have C1 := Lib.hid (l21Set_any a cap n W0 (hb.below ha1 (Nat.le_refl _)) hn)
  have HW0 := Lib.hid hW0
  clear hb
  go_enter Try.func25, Try.ntmps25
  go_wp2_with fail
  rw [← HW0.out]
  refine C1.out.mono ?_; rintro e w1 ⟨xs, ag, cg, z, rfl, hxl, hz, og, b1⟩
  have X2 := Rx.start hW0 og b1
  obtain ⟨W2, hW2⟩ : ∃ W, W = w1.alloc (.cells #[.slice ag xs.length cg] 26) := ⟨_, rfl⟩
  rw [← hW2] at X2
  have HW2 := Lib.hid hW2
  clear hW2 og b1 hr0 ha1 C1 hW0
  go_wp2_with fail
  rw [← HW2.out]
  have q2' := cell_of_one X2.box
  have CL := Lib.hid (LargestSumFree_spec ag cg xs W2 X2.own.ints (by omega))
  have hlv : (lvLargestSumFree xs : Int) ≤ 9223372036854775807 := by have := lvLSF_lt xs; omega
  obtain ⟨lv, hlv2⟩ : ∃ l, l = lvLargestSumFree xs := ⟨_, rfl⟩
  obtain ⟨bv, hbv⟩ : ∃ l, l = bLargestSumFree xs := ⟨_, rfl⟩
  rw [← hlv2, ← hbv] at CL
  rw [← hlv2] at hlv
  have HCL := Lib.hid CL
  clear CL hlv2 hbv
  go_wp2_with fail
  refine HCL.out.mono ?_; rintro e w3 ⟨rfl, b3⟩
  have X3 := X2.below b3
  clear X2 b3 HCL q2'
  cases bv with
  | true =>
    by_cases h3 : n % 3 = 0
    · have ht : ((n : Int).tmod 3 == 0) = true := by rw [Int.tmod_eq_emod_of_nonneg (by omega)]; simp; omega
      have q2 := cell_of_one X3.box
      have q3 := cell_of_one X3.res
      have f3 := free_of_one X3.res
      have HF := Lib.hid (X3.fin (.slice ag xs.length cg))
      clear X3
      go_wp2_with fail
      exact bodyPost_ret (v := .tuple #[.agg #[.slice ag xs.length cg], .int .i64 (lv : Int)]) (by simp [results, Try.results25, go_sem, q3]) rfl ⟨xs, _, _, _, rfl, hxl, (wf_of (by omega) (by omega)), HF.out⟩

    · have ht : ((n : Int).tmod 3 == 0) = false := by rw [Int.tmod_eq_emod_of_nonneg (by omega)]; simp; omega
      have q2 := cell_of_one X3.box
      have q3 := cell_of_one X3.res
      have f3 := free_of_one X3.res
      have HF := Lib.hid (X3.fin (.slice ag xs.length cg))
      clear X3
      go_wp2_with fail
      exact bodyPost_ret (v := .tuple #[.agg #[.slice ag xs.length cg], .int .i64 z]) (by simp [results, Try.results25, go_sem, q3]) rfl ⟨xs, _, _, _, rfl, hxl, hz, HF.out⟩

  | false =>
    have q2 := cell_of_one X3.box
    have q3 := cell_of_one X3.res
    have f3 := free_of_one X3.res
    have HF := Lib.hid (X3.fin (.slice ag xs.length cg))
    clear X3
    go_wp2_with fail
    exact bodyPost_ret (v := .tuple #[.agg #[.slice ag xs.length cg], .int .i64 z]) (by simp [results, Try.results25, go_sem, q3]) rfl ⟨xs, _, _, _, rfl, hxl, hz, HF.out⟩

set_option maxHeartbeats 3200000 in
theorem dSFPart_any (a : Option Addr) (cap n : Nat) (w : World) (hb : BtS w a cap n) (hn : n ≤ 2000000) :
    Calls Try.prog 18 #[.slice a n cap] w (DrewGI w) := by
  have ha1 := (Below.refl w.heap.size w).alloc (Nat.le_refl _) (.cells #[.slice none 0 0] 26)
  obtain ⟨W0, hW0⟩ : ∃ W, W = w.alloc (.cells #[.slice none 0 0] 26) := ⟨_, rfl⟩
  rw [← hW0] at ha1
  have C1 := Lib.hid (new_any a cap n W0 (hb.below ha1 (Nat.le_refl _)) hn)
  have CB := Lib.hid (fun cb (N : Int) w hc (hN : N ≤ 2000000000) => below_any W0 a cap n cb N w hc hn hN)
  have CN := Lib.hid (fun cb (N : Int) w hc (hN : N ≤ 2000000000) => once_any W0 a cap n cb N w hc hn hN)
  have HW0 := Lib.hid hW0
  clear hW0 hb ha1
  go_enter Try.func18, Try.ntmps18
  go_wp2_with fail
  rw [← HW0.out]
  refine C1.out.mono ?_; rintro e w1 ⟨cb, rfl, hc1⟩
  clear C1
  go_wp2_with fail
  refine (CN.out cb _ _ hc1 (by omega)).mono ?_; rintro e w2 ⟨b, rfl, hc2, g2⟩
  clear hc1 g2
  cases b with
  | true =>
    go_wp2_with fail
    refine (CB.out cb _ _ hc2 (by omega)).mono ?_; rintro e w3 ⟨x, rfl, hx, hc3, g3⟩
    have hcb3 := hc3.lt
    have hw : IntKind.i64.wrap (2 + (x : Int)) = 2 + (x : Int) := by rw [IntKind.wrap_i64]; omega
    have hxw : (Lit.int .i64 (2 + (x : Int))).wf = true := wf_of (by omega) (by omega)
    have al := (Below.refl w3.heap.size w3).alloc (Nat.le_refl _) (.cells #[.int .i64 (2 + (x : Int))] 3)
    have og := OwnI.one (w := w3) (B := w3.heap.size) (x := 2 + (x : Int)) rfl (Nat.le_refl _) hxw
    have X3 := Bx.start (xs := [2 + (x : Int)]) HW0.out (hc3.below al) og hcb3
    rw [show (w3.alloc (.cells #[.int .i64 (2 + (x : Int))] 3)).heap.size = w3.heap.size + 1 by simp] at X3
    obtain ⟨xs, hxs⟩ : ∃ xs, xs = [2 + (x : Int)] := ⟨_, rfl⟩
    have hl1 : xs.length = 1 := by rw [hxs]; rfl
    obtain ⟨W4, hW4⟩ : ∃ W, W = (w3.alloc (.cells #[.int .i64 (2 + (x : Int))] 3)).alloc (.cells #[.slice (some ⟨w3.heap.size, 0, none⟩) 1 1] 26) := ⟨_, rfl⟩
    have X4 : Bx w W0 a n cap cb (w3.heap.size + 1) (some ⟨w3.heap.size, 0, none⟩) 1 w3.heap.size xs W4 := by rw [hW4, hxs]; exact X3
    have q4 := cell_of_one X4.box
    rw [hl1] at q4
    have CL := Lib.hid (l3Set_any W0 a cap n cb (some ⟨w3.heap.size, 0, none⟩) 1 xs W4.drew X4.drew.cw hn X4.drew.own.ints (by omega))
    rw [hl1] at CL
    have HX := Lib.hid X4.drew
    have HW4 := Lib.hid hW4
    have HL1 := Lib.hid hl1
    clear X3 X4 al og hxw hxs hl1 hW4 hc2 hc3 g3 hx
    go_wp2_with fail
    rw [← HW4.out]
    go_region_with (go_at_call 181; refine CL.out.mono ?_; rintro e w5 ⟨z, rfl, hz, hc5, g5⟩; have X5 := HX.out.grown hc5 g5; have q5 := cell_of_one X5.box; rw [HL1.out] at q5; have q6 := cell_of_one X5.res; have f6 := free_of_one X5.res)
    all_goals
      have HF := X5.fin (.slice (some ⟨w3.heap.size, 0, none⟩) 1 1)
      have HFH := Lib.hid HF
      clear X5 q5 HF
      go_wp2_with fail
      exact bodyPost_ret (v := .tuple #[.agg #[.slice (some ⟨w3.heap.size, 0, none⟩) 1 1], .int .i64 z]) (by simp [results, Try.results18, go_sem, q6]) rfl ⟨xs, _, _, z, by rw [HL1.out], by rw [HL1.out]; omega, hz, HFH.out⟩
  | false =>
    have hs2 := hc2.bel.size
    have CS := Lib.hid (l21Set_any a cap n w2 (hc2.bt.below hc2.bel (Nat.le_refl _)) hn)
    have HB2 := Lib.hid hc2.bel
    clear hc2
    go_wp2_with fail
    refine CS.out.mono ?_; rintro e w3 ⟨xs, ag, cg, z, rfl, hxl, hz, og, b3⟩
    have X2 := Rx.start HW0.out (og.mono hs2) (nxB HB2.out b3 hs2)
    clear og b3 CS
    have q2 := cell_of_one X2.box
    have q3 := cell_of_one X2.res
    have f3 := free_of_one X2.res
    have HF := Lib.hid (X2.fin (.slice ag xs.length cg))
    clear X2
    go_wp2_with fail
    exact bodyPost_ret (v := .tuple #[.agg #[.slice ag xs.length cg], .int .i64 z]) (by simp [results, Try.results18, go_sem, q3]) rfl ⟨xs, _, _, _, rfl, hxl, hz, HF.out⟩

end Go.Proofs.Ytbidkjhgodkamaa
