/-
The public draws of FnApFree and FnSidon. Conditions: codes of at most 2000000 bytes.
-/
import Derived.Test.YtbidkjhgodkamaaDrw7
import Derived.Test.YtbidkjhgodkamaaFds
namespace Go.Proofs.Ytbidkjhgodkamaa
open Go.RowKit Go.ChangeShapes
set_option linter.unusedVariables false
set_option linter.unusedSimpArgs false

set_option maxHeartbeats 1600000 in
theorem l22Group_any (w0 : World) (a : Option Addr) (cap n cb : Nat) (w : World) (hc : CW w0 a n cap cb w) (hn : n ≤ 2000000) :
    Calls Try.prog 198 #[.pointer (some ⟨cb, 0, none⟩)] w (GaveC Any4 w0 a n cap cb w) := by
  have hcbl := hc.lt
  have hw0 := hc.bel.size
  have ha1 := (Below.refl w.heap.size w).alloc (Nat.le_refl _) (.cells #[.slice none 0 0] 26)
  have CN := Lib.hid (once_any w0 a cap n cb 8 _ (hc.below ha1) hn (by omega))
  have hr0 := new_at (w := w) (n := w.heap.size) (o := .cells #[.slice none 0 0] 26) rfl
  have G0 : w.grownBy (w.alloc (.cells #[.slice none 0 0] 26)) (some cb) := grown_of ha1 _
  clear hc ha1
  go_enter Try.func198, Try.ntmps198
  go_wp2_with fail
  refine CN.out.mono ?_; rintro e w1 ⟨b, rfl, hc1, g1⟩
  have hr1 := one_grown hr0 g1 (by simp; omega)
  have G1 := grown_trans G0 g1
  have hs1 : w.heap.size + 1 ≤ w1.heap.size := by have := g1.size; simpa using this
  clear CN hr0 G0 g1
  cases b with
  | true =>
    go_wp2_with fail
    refine (l2Any_any w0 a cap n cb w1 hc1 hn).mono ?_; rintro e w2 ⟨xs, ag, cg, rfl, hxs, og, hc2, g2⟩
    have hr2 := one_grown hr1 g2 (by simp; omega)
    have G2 := grown_trans G1 g2
    have hF := fin_g hc2 G2 hcbl hw0 og (by omega) (.slice ag xs.length cg)
    have HF := Lib.hid hF
    have q0 := cell_of_one hr2
    have f0 := free_of_one hr2
    clear hF og hc2 hr1 hr2 G1 G2 g2
    go_wp2_with fail
    exact bodyPost_ret (v := .agg #[.slice ag xs.length cg]) (by simp [results, Try.results198, go_sem, q0]) rfl ⟨xs, _, _, rfl, hxs, HF.out⟩
  | false =>
    go_wp2_with fail
    refine (l2Draw_any w0 a cap n cb 13 w1 hc1 hn (by omega) (by omega)).mono ?_; rintro e w2 ⟨xs, ag, cg, rfl, hxs, og, hc2, g2⟩
    have hr2 := one_grown hr1 g2 (by simp; omega)
    have G2 := grown_trans G1 g2
    have hF := fin_g hc2 G2 hcbl hw0 og (by omega) (.slice ag xs.length cg)
    have HF := Lib.hid hF
    have HXL := Lib.hid (grp_parts hxs).1
    have q0 := cell_of_one hr2
    have f0 := free_of_one hr2
    clear hF og hc2 hr1 hr2 G1 G2 g2 hxs
    go_wp2_with fail
    exact bodyPost_ret (v := .agg #[.slice ag xs.length cg]) (by simp [results, Try.results198, go_sem, q0]) rfl ⟨xs, _, _, rfl, (by have := HXL.out; unfold Any4; omega), HF.out⟩
set_option maxRecDepth 20000 in
set_option maxHeartbeats 3200000 in
theorem dLargestAF_any (a : Option Addr) (cap n : Nat) (w : World) (hb : BtS w a cap n) (hn : n ≤ 2000000) :
    Calls Try.prog 111 #[.slice a n cap] w (DrewG w) := by
  have ha1 := (Below.refl w.heap.size w).alloc (Nat.le_refl _) (.cells #[.slice none 0 0] 26)
  have hr0 := new_at (w := w) (n := w.heap.size) (o := .cells #[.slice none 0 0] 26) rfl
  obtain ⟨W0, hW0⟩ : ∃ W, W = w.alloc (.cells #[.slice none 0 0] 26) := ⟨_, rfl⟩
  rw [← hW0] at ha1 hr0
  have hs0 : W0.heap.size = w.heap.size + 1 := by rw [hW0]; simp
  have C1 := Lib.hid (new_any a cap n W0 (hb.below ha1 (Nat.le_refl _)) hn)
  have CN := Lib.hid (fun cb (N : Int) w hc (hN : N ≤ 2000000000) => once_any W0 a cap n cb N w hc hn hN)
  have HW0 := Lib.hid hW0
  clear hW0 hb
  go_enter Try.func111, Try.ntmps111
  go_wp2_with fail
  rw [← HW0.out]
  refine C1.out.mono ?_; rintro e w1 ⟨cb, rfl, hc1⟩
  clear C1
  go_wp2_with fail
  refine (CN.out cb _ _ hc1 (by omega)).mono ?_; rintro e w2 ⟨b, rfl, hc2, g2⟩
  have hs2 := hc2.bel.size
  have hcbw := hc2.hcb
  have hlt2 : w.heap.size < w2.heap.size := by omega
  clear hc1 g2
  cases b with
  | true =>
    have CG := Lib.hid (l2Any_any W0 a cap n cb w2 hc2 hn)
    go_wp2_with fail
    refine CG.out.mono ?_; rintro e w3 ⟨xs, ag, cg, rfl, hxs, og, hc3, g3⟩
    have hr2 := one_below hr0 hc3.bel (Nat.le_refl _)
    have B2 := ha1.trans (hc3.bel.mono (show w.heap.size ≤ W0.heap.size by omega))
    have HF : OwnI (w3.setCell ⟨w.heap.size, 0, none⟩ (.slice ag xs.length cg)) w.heap.size ag cg xs ∧ Below w.heap.size w (w3.setCell ⟨w.heap.size, 0, none⟩ (.slice ag xs.length cg)) :=
      ⟨OwnI.mono ⟨og.1, ownsRow_setCell_below og.2 hlt2 _⟩ (by omega), B2.setCell (Nat.le_refl _) _⟩
    have HFH := Lib.hid HF
    have hxl : xs.length ≤ 4 := hxs
    have q0 := cell_of_one hr2
    have f0 := free_of_one hr2
    clear HF og hc3 hr0 hr2 g3 B2 ha1 hs0 hs2 hc2
    go_wp2_with fail
    exact bodyPost_ret (v := .agg #[.slice ag xs.length cg]) (by simp [results, Try.results111, go_sem, q0]) rfl ⟨xs, _, _, rfl, hxl, HFH.out⟩
  | false =>
    have CG := Lib.hid (l2Draw_any W0 a cap n cb 11 w2 hc2 hn (by omega) (by omega))
    go_wp2_with fail
    refine CG.out.mono ?_; rintro e w3 ⟨xs, ag, cg, rfl, hxs, og, hc3, g3⟩
    have hr2 := one_below hr0 hc3.bel (Nat.le_refl _)
    have B2 := ha1.trans (hc3.bel.mono (show w.heap.size ≤ W0.heap.size by omega))
    have HF : OwnI (w3.setCell ⟨w.heap.size, 0, none⟩ (.slice ag xs.length cg)) w.heap.size ag cg xs ∧ Below w.heap.size w (w3.setCell ⟨w.heap.size, 0, none⟩ (.slice ag xs.length cg)) :=
      ⟨OwnI.mono ⟨og.1, ownsRow_setCell_below og.2 hlt2 _⟩ (by omega), B2.setCell (Nat.le_refl _) _⟩
    have HFH := Lib.hid HF
    have hxl : xs.length ≤ 4 := by have := (grp_parts hxs).1; omega
    have q0 := cell_of_one hr2
    have f0 := free_of_one hr2
    clear HF og hc3 hr0 hr2 g3 B2 ha1 hs0 hs2 hc2
    go_wp2_with fail
    exact bodyPost_ret (v := .agg #[.slice ag xs.length cg]) (by simp [results, Try.results111, go_sem, q0]) rfl ⟨xs, _, _, rfl, hxl, HFH.out⟩
set_option maxRecDepth 20000 in
set_option maxHeartbeats 3200000 in
theorem dLongestFL_any (a : Option Addr) (cap n : Nat) (w : World) (hb : BtS w a cap n) (hn : n ≤ 2000000) :
    Calls Try.prog 115 #[.slice a n cap] w (fun e w' => ∃ x : Int, e = .returned (.int .i64 x) ∧ -1 ≤ x ∧ x ≤ 12 ∧ Below w.heap.size w w') := by
  have C1 := Lib.hid (new_any a cap n w hb hn)
  go_enter Try.func115, Try.ntmps115
  go_wp2_with fail
  refine C1.out.mono ?_; rintro e w1 ⟨cb, rfl, hc1⟩
  go_wp2_with fail
  refine (below_any w a cap n cb 14 w1 hc1 hn (by omega)).mono ?_; rintro e w2 ⟨x, rfl, hx, hc2, g2⟩
  have hw : IntKind.i64.wrap ((x : Int) - 1) = (x : Int) - 1 := by rw [IntKind.wrap_i64]; omega
  go_wp2_with fail
  go_ret
  exact ⟨_, rfl, by omega, by omega, hc2.bel⟩
set_option maxRecDepth 20000 in
set_option maxHeartbeats 3200000 in
theorem dBehrend_any (a : Option Addr) (cap n : Nat) (w : World) (hb : BtS w a cap n) (hn : n ≤ 2000000) :
    Calls Try.prog 123 #[.slice a n cap] w (fun e w' => ∃ x : Int, e = .returned (.int .i64 x) ∧ -1 ≤ x ∧ x ≤ 82 ∧ Below w.heap.size w w') := by
  have C1 := Lib.hid (new_any a cap n w hb hn)
  go_enter Try.func123, Try.ntmps123
  go_wp2_with fail
  refine C1.out.mono ?_; rintro e w1 ⟨cb, rfl, hc1⟩
  go_wp2_with fail
  refine (below_any w a cap n cb 84 w1 hc1 hn (by omega)).mono ?_; rintro e w2 ⟨x, rfl, hx, hc2, g2⟩
  have hw : IntKind.i64.wrap ((x : Int) - 1) = (x : Int) - 1 := by rw [IntKind.wrap_i64]; omega
  go_wp2_with fail
  go_ret
  exact ⟨_, rfl, by omega, by omega, hc2.bel⟩
set_option maxRecDepth 20000 in
set_option maxHeartbeats 3200000 in
theorem l3One_any (a : Option Addr) (cap n : Nat) (w : World) (hb : BtS w a cap n) (hn : n ≤ 2000000) :
    Calls Try.prog 193 #[.slice a n cap] w (DrewGI w) := by
  have ha1 := (Below.refl w.heap.size w).alloc (Nat.le_refl _) (.cells #[.slice none 0 0] 26)
  obtain ⟨W0, hW0⟩ : ∃ W, W = w.alloc (.cells #[.slice none 0 0] 26) := ⟨_, rfl⟩
  rw [← hW0] at ha1
  have C1 := Lib.hid (new_any a cap n W0 (hb.below ha1 (Nat.le_refl _)) hn)
  have CB := Lib.hid (fun cb (N : Int) w hc (hN : N ≤ 2000000000) => below_any W0 a cap n cb N w hc hn hN)
  have CN := Lib.hid (fun cb (N : Int) w hc (hN : N ≤ 2000000000) => once_any W0 a cap n cb N w hc hn hN)
  have HW0 := Lib.hid hW0
  clear hW0 hb ha1
  go_enter Try.func193, Try.ntmps193
  go_wp2_with fail
  rw [← HW0.out]
  refine C1.out.mono ?_; rintro e w1 ⟨cb, rfl, hc1⟩
  have hcb1 := hc1.lt
  have CG := Lib.hid (l2Any_any W0 a cap n cb w1 hc1 hn)
  clear C1 hc1
  go_wp2_with fail
  refine CG.out.mono ?_; rintro e w2 ⟨xs, ag, cg, rfl, hxs, og, hc2, g2⟩
  have X3 := Bx.start HW0.out hc2 og hcb1
  have hxl : xs.length ≤ 4 := hxs
  obtain ⟨W3, hW3⟩ : ∃ W, W = w2.alloc (.cells #[.slice ag xs.length cg] 26) := ⟨_, rfl⟩
  rw [← hW3] at X3
  have HW3 := Lib.hid hW3
  clear hW3 CG og hc2 g2 hxs
  have q4 := cell_of_one X3.box
  have CL := Lib.hid (l3Set_any W0 a cap n cb ag cg xs W3.drew X3.drew.cw hn X3.drew.own.ints (by omega))
  have HX := Lib.hid X3.drew
  clear X3
  go_wp2_with fail
  rw [← HW3.out]
  go_region_with (go_at_call 181; refine CL.out.mono ?_; rintro e w5 ⟨z, rfl, hz, hc5, g5⟩; have X5 := HX.out.grown hc5 g5; have q5 := cell_of_one X5.box; have q6 := cell_of_one X5.res; have f6 := free_of_one X5.res)
  all_goals
    have HF := Lib.hid (X5.fin (.slice ag xs.length cg))
    clear X5 q5
    go_wp2_with fail
    exact bodyPost_ret (v := .tuple #[.agg #[.slice ag xs.length cg], .int .i64 z]) (by simp [results, Try.results193, go_sem, q6]) rfl ⟨xs, _, _, z, rfl, hxl, hz, HF.out⟩
set_option maxHeartbeats 1600000 in
theorem dTriples_any (a : Option Addr) (cap n : Nat) (w : World) (hb : BtS w a cap n) (hn : n ≤ 2000000) :
    Calls Try.prog 120 #[.slice a n cap] w (DrewGI w) := by
  have ha1 := (Below.refl w.heap.size w).alloc (Nat.le_refl _) (.cells #[.slice none 0 0] 26)
  have hr0 := new_at (w := w) (n := w.heap.size) (o := .cells #[.slice none 0 0] 26) rfl
  obtain ⟨W0, hW0⟩ : ∃ W, W = w.alloc (.cells #[.slice none 0 0] 26) := ⟨_, rfl⟩
  rw [← hW0] at ha1 hr0
  have C1 := Lib.hid (l3One_any a cap n W0 (hb.below ha1 (Nat.le_refl _)) hn)
  have HW0 := Lib.hid hW0
  clear hb
  go_enter Try.func120, Try.ntmps120
  go_wp2_with fail
  rw [← HW0.out]
  refine C1.out.mono ?_; rintro e w1 ⟨xs, ag, cg, z, rfl, hxl, hz, og, b1⟩
  have X2 := Rx.start hW0 og b1
  clear og b1 hr0 ha1 C1 hW0
  have q2 := cell_of_one X2.box
  have q3 := cell_of_one X2.res
  have f3 := free_of_one X2.res
  have HF := Lib.hid (X2.fin (.slice ag xs.length cg))
  clear X2
  go_wp2_with fail
  exact bodyPost_ret (v := .tuple #[.agg #[.slice ag xs.length cg], .int .i64 z]) (by simp [results, Try.results120, go_sem, q3]) rfl ⟨xs, _, _, _, rfl, hxl, hz, HF.out⟩
set_option maxHeartbeats 1600000 in
theorem dIsSidon_any (a : Option Addr) (cap n : Nat) (w : World) (hb : BtS w a cap n) (hn : n ≤ 2000000) :
    Calls Try.prog 33 #[.slice a n cap] w (DrewGI w) := by
  have ha1 := (Below.refl w.heap.size w).alloc (Nat.le_refl _) (.cells #[.slice none 0 0] 26)
  have hr0 := new_at (w := w) (n := w.heap.size) (o := .cells #[.slice none 0 0] 26) rfl
  obtain ⟨W0, hW0⟩ : ∃ W, W = w.alloc (.cells #[.slice none 0 0] 26) := ⟨_, rfl⟩
  rw [← hW0] at ha1 hr0
  have C1 := Lib.hid (l3One_any a cap n W0 (hb.below ha1 (Nat.le_refl _)) hn)
  have HW0 := Lib.hid hW0
  clear hb
  go_enter Try.func33, Try.ntmps33
  go_wp2_with fail
  rw [← HW0.out]
  refine C1.out.mono ?_; rintro e w1 ⟨xs, ag, cg, z, rfl, hxl, hz, og, b1⟩
  have X2 := Rx.start hW0 og b1
  clear og b1 hr0 ha1 C1 hW0
  have q2 := cell_of_one X2.box
  have q3 := cell_of_one X2.res
  have f3 := free_of_one X2.res
  have HF := Lib.hid (X2.fin (.slice ag xs.length cg))
  clear X2
  go_wp2_with fail
  exact bodyPost_ret (v := .tuple #[.agg #[.slice ag xs.length cg], .int .i64 z]) (by simp [results, Try.results33, go_sem, q3]) rfl ⟨xs, _, _, _, rfl, hxl, hz, HF.out⟩
set_option maxHeartbeats 1600000 in
theorem dLargestSD_any (a : Option Addr) (cap n : Nat) (w : World) (hb : BtS w a cap n) (hn : n ≤ 2000000) :
    Calls Try.prog 38 #[.slice a n cap] w (DrewG w) := by
  have ha1 := (Below.refl w.heap.size w).alloc (Nat.le_refl _) (.cells #[.slice none 0 0] 26)
  have hr0 := new_at (w := w) (n := w.heap.size) (o := .cells #[.slice none 0 0] 26) rfl
  obtain ⟨W0, hW0⟩ : ∃ W, W = w.alloc (.cells #[.slice none 0 0] 26) := ⟨_, rfl⟩
  rw [← hW0] at ha1 hr0
  have hs0 : W0.heap.size = w.heap.size + 1 := by rw [hW0]; simp
  have C1 := Lib.hid (new_any a cap n W0 (hb.below ha1 (Nat.le_refl _)) hn)
  have HW0 := Lib.hid hW0
  clear hW0 hb
  go_enter Try.func38, Try.ntmps38
  go_wp2_with fail
  rw [← HW0.out]
  refine C1.out.mono ?_; rintro e w1 ⟨cb, rfl, hc1⟩
  have hs1 := hc1.bel.size
  have CG := Lib.hid (l22Group_any W0 a cap n cb w1 hc1 hn)
  have hcbw := hc1.hcb
  have hlt1 : w.heap.size < w1.heap.size := by omega
  clear C1
  go_wp2_with fail
  refine CG.out.mono ?_; rintro e w2 ⟨xs, ag, cg, rfl, hxs, og, hc2, g2⟩
  have hr2 := one_below hr0 hc2.bel (Nat.le_refl _)
  have B2 := ha1.trans (hc2.bel.mono (show w.heap.size ≤ W0.heap.size by omega))
  have HF : OwnI (w2.setCell ⟨w.heap.size, 0, none⟩ (.slice ag xs.length cg)) w.heap.size ag cg xs ∧ Below w.heap.size w (w2.setCell ⟨w.heap.size, 0, none⟩ (.slice ag xs.length cg)) :=
    ⟨OwnI.mono ⟨og.1, ownsRow_setCell_below og.2 hlt1 _⟩ (by omega), B2.setCell (Nat.le_refl _) _⟩
  have HFH := Lib.hid HF
  have hxl : xs.length ≤ 4 := hxs
  have q0 := cell_of_one hr2
  have f0 := free_of_one hr2
  clear HF og hc2 hr0 hr2 g2 B2 ha1 hs0 hs1 hc1
  go_wp2_with fail
  exact bodyPost_ret (v := .agg #[.slice ag xs.length cg]) (by simp [results, Try.results38, go_sem, q0]) rfl ⟨xs, _, _, rfl, hxl, HFH.out⟩
set_option maxRecDepth 20000 in
set_option maxHeartbeats 3200000 in
theorem dCountSD_any (a : Option Addr) (cap n : Nat) (w : World) (hb : BtS w a cap n) (hn : n ≤ 2000000) :
    Calls Try.prog 47 #[.slice a n cap] w (DrewGI w) := by
  have ha1 := (Below.refl w.heap.size w).alloc (Nat.le_refl _) (.cells #[.slice none 0 0] 26)
  obtain ⟨W0, hW0⟩ : ∃ W, W = w.alloc (.cells #[.slice none 0 0] 26) := ⟨_, rfl⟩
  rw [← hW0] at ha1
  have C1 := Lib.hid (new_any a cap n W0 (hb.below ha1 (Nat.le_refl _)) hn)
  have CB := Lib.hid (fun cb (N : Int) w hc (hN : N ≤ 2000000000) => below_any W0 a cap n cb N w hc hn hN)
  have CN := Lib.hid (fun cb (N : Int) w hc (hN : N ≤ 2000000000) => once_any W0 a cap n cb N w hc hn hN)
  have HW0 := Lib.hid hW0
  clear hW0 hb ha1
  go_enter Try.func47, Try.ntmps47
  go_wp2_with fail
  rw [← HW0.out]
  refine C1.out.mono ?_; rintro e w1 ⟨cb, rfl, hc1⟩
  have hcb1 := hc1.lt
  have CG := Lib.hid (l22Group_any W0 a cap n cb w1 hc1 hn)
  clear C1 hc1
  go_wp2_with fail
  refine CG.out.mono ?_; rintro e w2 ⟨xs, ag, cg, rfl, hxs, og, hc2, g2⟩
  have X3 := Bx.start HW0.out hc2 og hcb1
  have hxl : xs.length ≤ 4 := hxs
  obtain ⟨W3, hW3⟩ : ∃ W, W = w2.alloc (.cells #[.slice ag xs.length cg] 26) := ⟨_, rfl⟩
  rw [← hW3] at X3
  have HW3 := Lib.hid hW3
  clear hW3 CG og hc2 g2 hxs
  have q4 := cell_of_one X3.box
  have CL := Lib.hid (CB.out cb 6 W3.drew X3.drew.cw (by omega))
  have HX := Lib.hid X3.drew
  clear X3
  go_wp2_with fail
  rw [← HW3.out]
  go_region_with (go_at_call 180; refine CL.out.mono ?_; rintro e w5 ⟨x, rfl, hx, hc5, g5⟩; have X5 := HX.out.grown hc5 g5; have q5 := cell_of_one X5.box; have q6 := cell_of_one X5.res; have f6 := free_of_one X5.res; have hw5 : IntKind.i64.wrap (1 + (x : Int)) = 1 + (x : Int) := by rw [IntKind.wrap_i64]; omega)
  all_goals
    have HF := Lib.hid (X5.fin (.slice ag xs.length cg))
    have hz : (Lit.int .i64 ((x : Int))).wf = true := wf_of (by omega) (by omega)
    clear X5 q5
    go_wp2_with fail
    exact bodyPost_ret (v := .tuple #[.agg #[.slice ag xs.length cg], .int .i64 ((x : Int))]) (by simp [results, Try.results47, go_sem, q6]) rfl ⟨xs, _, _, _, rfl, hxl, hz, HF.out⟩
set_option maxRecDepth 20000 in
set_option maxHeartbeats 3200000 in
theorem dFindDS_any (a : Option Addr) (cap n : Nat) (w : World) (hb : BtS w a cap n) (hn : n ≤ 2000000) :
    Calls Try.prog 41 #[.slice a n cap] w (DrewGI w) := by
  have ha1 := (Below.refl w.heap.size w).alloc (Nat.le_refl _) (.cells #[.slice none 0 0] 26)
  obtain ⟨W0, hW0⟩ : ∃ W, W = w.alloc (.cells #[.slice none 0 0] 26) := ⟨_, rfl⟩
  rw [← hW0] at ha1
  have C1 := Lib.hid (new_any a cap n W0 (hb.below ha1 (Nat.le_refl _)) hn)
  have CB := Lib.hid (fun cb (N : Int) w hc (hN : N ≤ 2000000000) => below_any W0 a cap n cb N w hc hn hN)
  have CN := Lib.hid (fun cb (N : Int) w hc (hN : N ≤ 2000000000) => once_any W0 a cap n cb N w hc hn hN)
  have HW0 := Lib.hid hW0
  clear hW0 hb ha1
  go_enter Try.func41, Try.ntmps41
  go_wp2_with fail
  rw [← HW0.out]
  refine C1.out.mono ?_; rintro e w1 ⟨cb, rfl, hc1⟩
  have hcb1 := hc1.lt
  have CG := Lib.hid (l22Group_any W0 a cap n cb w1 hc1 hn)
  clear C1 hc1
  go_wp2_with fail
  refine CG.out.mono ?_; rintro e w2 ⟨xs, ag, cg, rfl, hxs, og, hc2, g2⟩
  have X3 := Bx.start HW0.out hc2 og hcb1
  have hxl : xs.length ≤ 4 := hxs
  obtain ⟨W3, hW3⟩ : ∃ W, W = w2.alloc (.cells #[.slice ag xs.length cg] 26) := ⟨_, rfl⟩
  rw [← hW3] at X3
  have HW3 := Lib.hid hW3
  clear hW3 CG og hc2 g2 hxs
  have q4 := cell_of_one X3.box
  have CL := Lib.hid (CB.out cb 6 W3.drew X3.drew.cw (by omega))
  have HX := Lib.hid X3.drew
  clear X3
  go_wp2_with fail
  rw [← HW3.out]
  go_region_with (go_at_call 180; refine CL.out.mono ?_; rintro e w5 ⟨x, rfl, hx, hc5, g5⟩; have X5 := HX.out.grown hc5 g5; have q5 := cell_of_one X5.box; have q6 := cell_of_one X5.res; have f6 := free_of_one X5.res; have hw5 : IntKind.i64.wrap (1 + (x : Int)) = 1 + (x : Int) := by rw [IntKind.wrap_i64]; omega)
  all_goals
    have HF := Lib.hid (X5.fin (.slice ag xs.length cg))
    have hz : (Lit.int .i64 (1 + (x : Int))).wf = true := wf_of (by omega) (by omega)
    clear X5 q5
    go_wp2_with fail
    exact bodyPost_ret (v := .tuple #[.agg #[.slice ag xs.length cg], .int .i64 (1 + (x : Int))]) (by simp [results, Try.results41, go_sem, q6]) rfl ⟨xs, _, _, _, rfl, hxl, hz, HF.out⟩
theorem fdF_wf (os : List Int) (n : Int) : (Lit.int .i64 (((fdF os n).getD 0 : Nat) : Int)).wf = true := by
  have : (fdF os n).getD 0 < 16777216 := by
    cases e : fdF os n with
    | none => simp
    | some b =>
      unfold fdF at e
      split at e
      · rename_i hc
        simp only [fdC, Bool.and_eq_true, inB_true] at hc
        obtain ⟨hg, hb, hn⟩ := hc
        have h1 : (1 : Nat) < 2 ^ (gn os - (gn os - 1)) := by
          rw [show gn os - (gn os - 1) = 1 by omega]; decide
        have := fdO_lt _ _ _ _ _ _ (by omega) h1 e
        have h2 : 2 ^ gn os ≤ 2 ^ 16 := Nat.pow_le_pow_right (by decide) (by omega)
        simp only [Option.getD_some]
        omega
      · cases e
  exact wf_of (by omega) (by omega)
set_option maxRecDepth 20000 in
set_option maxHeartbeats 3200000 in
theorem dIsDS_any (a : Option Addr) (cap n : Nat) (w : World) (hb : BtS w a cap n) (hn : n ≤ 2000000) :
    Calls Try.prog 45 #[.slice a n cap] w (DrewGI w) := by
  have ha1 := (Below.refl w.heap.size w).alloc (Nat.le_refl _) (.cells #[.slice none 0 0] 26)
  obtain ⟨W0, hW0⟩ : ∃ W, W = w.alloc (.cells #[.slice none 0 0] 26) := ⟨_, rfl⟩
  rw [← hW0] at ha1
  have C1 := Lib.hid (new_any a cap n W0 (hb.below ha1 (Nat.le_refl _)) hn)
  have CB := Lib.hid (fun cb (N : Int) w hc (hN : N ≤ 2000000000) => below_any W0 a cap n cb N w hc hn hN)
  have CN := Lib.hid (fun cb (N : Int) w hc (hN : N ≤ 2000000000) => once_any W0 a cap n cb N w hc hn hN)
  have HW0 := Lib.hid hW0
  clear hW0 hb ha1
  go_enter Try.func45, Try.ntmps45
  go_wp2_with fail
  rw [← HW0.out]
  refine C1.out.mono ?_; rintro e w1 ⟨cb, rfl, hc1⟩
  have hcb1 := hc1.lt
  have CG := Lib.hid (l22Group_any W0 a cap n cb w1 hc1 hn)
  clear C1 hc1
  go_wp2_with fail
  refine CG.out.mono ?_; rintro e w2 ⟨xs, ag, cg, rfl, hxs, og, hc2, g2⟩
  have X3 := Bx.start HW0.out hc2 og hcb1
  have hxl : xs.length ≤ 4 := hxs
  obtain ⟨W3, hW3⟩ : ∃ W, W = w2.alloc (.cells #[.slice ag xs.length cg] 26) := ⟨_, rfl⟩
  rw [← hW3] at X3
  have HW3 := Lib.hid hW3
  clear hW3 CG og hc2 g2 hxs
  have X4 := X3.drew
  have FD := Lib.hid (fun k w h => fds_spec ag cg xs k w h (by omega))
  clear X3
  go_wp2_with fail
  rw [← HW3.out]
  refine wp_region_held_drew (S := (fun w' => w'.cell? ⟨w2.heap.size, 0, none⟩ = some (.slice ag xs.length cg))) (by kernel_rfl) (cell_of_one X4.box) (fun hHeld => ?_)
  refine wpAnyH_take (i := 0) (v := ?_) rfl (by kernel_rfl) (by kernel_rfl) (by kernel_rfl) (fun _ _ _ h => h) (Or.inl ⟨by first | kernel_rfl | rfl, ?_⟩) (by assumption) ?_
  rotate_left
  · intro w hSw
    (try dsimp only at hSw)
    (try go_split_ands)
    go_simp
    try with_reducible rfl
  (try simp only [Act.put, List.setIfInBounds_toArray, List.set_cons_zero, List.set_cons_succ])
  refine wpAnyH_take (i := 1) (v := ?_) rfl (by kernel_rfl) (by kernel_rfl) (by kernel_rfl) (fun _ _ _ h => h) (Or.inl ⟨by first | kernel_rfl | rfl, ?_⟩) (by assumption) ?_
  rotate_left
  · intro w hSw
    (try dsimp only at hSw)
    (try go_split_ands)
    go_simp
    try with_reducible rfl
  (try simp only [Act.put, List.setIfInBounds_toArray, List.set_cons_zero, List.set_cons_succ])
  refine wpAnyH_ready (rs := [2]) (by kernel_rfl) (by simp) ?_
  refine AllReadyH.cons rfl (fun K hK => ?_) AllReadyH.nil
  go_simp
  go_at_call 180
  refine (CB.out cb _ _ X4.cw (by omega)).mono ?_; rintro e u ⟨x, rfl, hx, hc5, g5⟩
  have X4 := X4.grown hc5 g5
  have hx4 : x < 4 := by omega
  have hw5 : IntKind.i64.wrap (2 + (x : Int)) = 2 + (x : Int) := by rw [IntKind.wrap_i64]; omega
  have F2 := FD.out (2 + (x : Int))
  have hfw := fdF_wf xs (2 + (x : Int))
  obtain ⟨fv, hfv⟩ : ∃ v, v = (fdF xs (2 + (x : Int))).getD 0 := ⟨_, rfl⟩
  obtain ⟨fb, hfb⟩ : ∃ v, v = (fdF xs (2 + (x : Int))).isSome := ⟨_, rfl⟩
  rw [← hfv, ← hfb] at F2
  rw [← hfv] at hfw
  have F3 := Lib.hid F2
  clear F2 hfv hfb FD hc5 g5 hx
  refine hK.out _ _ (cell_of_one X4.box) (fun hHeld => ?_)
  clear hK K
  (try simp only [Act.put, List.setIfInBounds_toArray, List.set_cons_zero, List.set_cons_succ])
  refine wpAnyH_take (i := 3) (v := ?_) rfl (by kernel_rfl) (by kernel_rfl) (by kernel_rfl) (fun _ _ _ h => h) (Or.inl ⟨by first | kernel_rfl | rfl, ?_⟩) (by assumption) ?_
  rotate_left
  · intro w hSw
    (try dsimp only at hSw)
    (try go_split_ands)
    go_simp
    try with_reducible rfl
  (try simp only [Act.put, List.setIfInBounds_toArray, List.set_cons_zero, List.set_cons_succ])
  refine wpAnyH_ready (rs := [4]) (by kernel_rfl) (by simp) ?_
  refine AllReadyH.cons rfl (fun K hK => ?_) AllReadyH.nil
  go_simp
  go_at_call 43
  refine (F3.out _ X4.own.ints).mono ?_; rintro e u2 ⟨rfl, b⟩
  have X4 := X4.below b
  clear b F3
  refine hK.out _ _ (cell_of_one X4.box) (fun hHeld => ?_)
  clear hK K
  (try simp only [Act.put, List.setIfInBounds_toArray, List.set_cons_zero, List.set_cons_succ])
  refine wpAnyH_take (i := 5) (v := ?_) rfl (by kernel_rfl) (by kernel_rfl) (by kernel_rfl) (fun _ _ _ h => h) (Or.inl ⟨by first | kernel_rfl | rfl, ?_⟩) (by assumption) ?_
  rotate_left
  · intro w hSw
    (try dsimp only at hSw)
    (try go_split_ands)
    go_simp
    try with_reducible rfl
  (try simp only [Act.put, List.setIfInBounds_toArray, List.set_cons_zero, List.set_cons_succ])
  refine wpAnyH_take (i := 6) (v := ?_) rfl (by kernel_rfl) (by kernel_rfl) (by kernel_rfl) (fun _ _ _ h => h) (Or.inl ⟨by first | kernel_rfl | rfl, ?_⟩) (by assumption) ?_
  rotate_left
  · intro w hSw
    (try dsimp only at hSw)
    (try go_split_ands)
    go_simp
    try with_reducible rfl
  (try simp only [Act.put, List.setIfInBounds_toArray, List.set_cons_zero, List.set_cons_succ])
  refine wpAnyH_take (i := 7) (v := ?_) rfl (by kernel_rfl) (by kernel_rfl) (by kernel_rfl) (fun _ _ _ h => h) (Or.inl ⟨by first | kernel_rfl | rfl, ?_⟩) (by assumption) ?_
  rotate_left
  · intro w hSw
    (try dsimp only at hSw)
    (try go_split_ands)
    go_simp
    try with_reducible rfl
  (try simp only [Act.put, List.setIfInBounds_toArray, List.set_cons_zero, List.set_cons_succ])
  refine wpAnyH_take (i := 8) (v := ?_) rfl (by kernel_rfl) (by kernel_rfl) (by kernel_rfl) (fun _ _ _ h => h) (Or.inl ⟨by first | kernel_rfl | rfl, ?_⟩) (by assumption) ?_
  rotate_left
  · intro w hSw
    (try dsimp only at hSw)
    (try go_split_ands)
    go_simp
    try with_reducible rfl
  (try simp only [Act.put, List.setIfInBounds_toArray, List.set_cons_zero, List.set_cons_succ])
  refine wpAnyH_take (i := 9) (v := ?_) rfl (by kernel_rfl) (by kernel_rfl) (by kernel_rfl) (fun _ _ _ h => h) (Or.inl ⟨by first | kernel_rfl | rfl, ?_⟩) (by assumption) ?_
  rotate_left
  · intro w hSw
    (try dsimp only at hSw)
    (try go_split_ands)
    go_simp
    try with_reducible rfl
  (try simp only [Act.put, List.setIfInBounds_toArray, List.set_cons_zero, List.set_cons_succ])
  refine wpAnyH_done (by kernel_rfl) ?_ _
  (try simp only [List.getElem_toArray, List.getElem_cons_succ, List.getElem_cons_zero, Act.put, List.setIfInBounds_toArray, List.set_cons_zero, List.set_cons_succ])
  cases fb with
  | true =>
    go_wp2_with fail
    refine (CN.out cb _ _ X4.cw (by omega)).mono ?_; rintro e u3 ⟨b, rfl, hc5, g5⟩
    have X4 := X4.grown hc5 g5
    clear hc5 g5
    cases b with
    | true =>
      have q4 := cell_of_one X4.box
      have CL := Lib.hid (l3Set_any W0 a cap n cb ag cg xs u3.drew X4.drew.cw hn X4.drew.own.ints (by omega))
      have HX := Lib.hid X4.drew
      clear X4
      go_wp2_with fail
      go_region_with (go_at_call 181; refine CL.out.mono ?_; rintro e w5 ⟨z, rfl, hz, hc5, g5⟩; have X5 := HX.out.grown hc5 g5; have q5 := cell_of_one X5.box; have q6 := cell_of_one X5.res; have f6 := free_of_one X5.res)
      all_goals
        have HF := Lib.hid (X5.fin (.slice ag xs.length cg))
        clear X5 q5
        go_wp2_with fail
        exact bodyPost_ret (v := .tuple #[.agg #[.slice ag xs.length cg], .int .i64 z]) (by simp [results, Try.results45, go_sem, q6]) rfl ⟨xs, _, _, z, rfl, hxl, hz, HF.out⟩
    | false =>
      have q4 := cell_of_one X4.box
      have q6 := cell_of_one X4.res
      have f6 := free_of_one X4.res
      have HF := Lib.hid (X4.fin (.slice ag xs.length cg))
      clear X4
      go_wp2_with fail
      exact bodyPost_ret (v := .tuple #[.agg #[.slice ag xs.length cg], .int .i64 (fv : Int)]) (by simp [results, Try.results45, go_sem, q6]) rfl ⟨xs, _, _, _, rfl, hxl, hfw, HF.out⟩
  | false =>
    have q4 := cell_of_one X4.box
    have CL := Lib.hid (l3Set_any W0 a cap n cb ag cg xs u2.drew X4.drew.cw hn X4.drew.own.ints (by omega))
    have HX := Lib.hid X4.drew
    clear X4
    go_wp2_with fail
    go_region_with (go_at_call 181; refine CL.out.mono ?_; rintro e w5 ⟨z, rfl, hz, hc5, g5⟩; have X5 := HX.out.grown hc5 g5; have q5 := cell_of_one X5.box; have q6 := cell_of_one X5.res; have f6 := free_of_one X5.res)
    all_goals
      have HF := Lib.hid (X5.fin (.slice ag xs.length cg))
      clear X5 q5
      go_wp2_with fail
      exact bodyPost_ret (v := .tuple #[.agg #[.slice ag xs.length cg], .int .i64 z]) (by simp [results, Try.results45, go_sem, q6]) rfl ⟨xs, _, _, z, rfl, hxl, hz, HF.out⟩
set_option maxRecDepth 20000 in
set_option maxHeartbeats 3200000 in
theorem dSidonBound_any (a : Option Addr) (cap n : Nat) (w : World) (hb : BtS w a cap n) (hn : n ≤ 2000000) :
    Calls Try.prog 48 #[.slice a n cap] w (DrewGI w) := by
  have ha1 := (Below.refl w.heap.size w).alloc (Nat.le_refl _) (.cells #[.slice none 0 0] 26)
  obtain ⟨W0, hW0⟩ : ∃ W, W = w.alloc (.cells #[.slice none 0 0] 26) := ⟨_, rfl⟩
  rw [← hW0] at ha1
  have C1 := Lib.hid (new_any a cap n W0 (hb.below ha1 (Nat.le_refl _)) hn)
  have CB := Lib.hid (fun cb (N : Int) w hc (hN : N ≤ 2000000000) => below_any W0 a cap n cb N w hc hn hN)
  have CN := Lib.hid (fun cb (N : Int) w hc (hN : N ≤ 2000000000) => once_any W0 a cap n cb N w hc hn hN)
  have HW0 := Lib.hid hW0
  clear hW0 hb ha1
  go_enter Try.func48, Try.ntmps48
  go_wp2_with fail
  rw [← HW0.out]
  refine C1.out.mono ?_; rintro e w1 ⟨cb, rfl, hc1⟩
  have hcb1 := hc1.lt
  have CG := Lib.hid (l2Any_any W0 a cap n cb w1 hc1 hn)
  clear C1 hc1
  go_wp2_with fail
  refine CG.out.mono ?_; rintro e w2 ⟨xs, ag, cg, rfl, hxs, og, hc2, g2⟩
  have X3 := Bx.start HW0.out hc2 og hcb1
  have hxl : xs.length ≤ 4 := hxs
  obtain ⟨W3, hW3⟩ : ∃ W, W = w2.alloc (.cells #[.slice ag xs.length cg] 26) := ⟨_, rfl⟩
  rw [← hW3] at X3
  have HW3 := Lib.hid hW3
  clear hW3 CG og hc2 g2 hxs
  have al5 := (Below.refl W3.drew.heap.size W3.drew).alloc (Nat.le_refl _) (.cells #[.int .i64 0, .int .i64 1, .int .i64 2, .int .i64 3, .int .i64 4, .int .i64 5, .int .i64 (-1), .int .i64 101, .int .i64 9223372036854775807] 3)
  have q4 := cell_of_one X3.box
  have XA := X3.drew.below al5
  have q4a := cell_of_one XA.box
  have hcb5 := X3.cw.lt
  have CP := pick_any W0 a cap n cb (some ⟨W3.heap.size, 0, none⟩) 9 [0, 1, 2, 3, 4, 5, -1, 101, 9223372036854775807] (W3.drew.alloc (.cells #[.int .i64 0, .int .i64 1, .int .i64 2, .int .i64 3, .int .i64 4, .int .i64 5, .int .i64 (-1), .int .i64 101, .int .i64 9223372036854775807] 3)) XA.cw hn (Ints.litL rfl _ (by decide) (by simp)) (fun y hy => by cases hy; simp; omega) (by simp) (by simp)
  simp only [List.length_cons, List.length_nil, Nat.zero_add, Nat.reduceAdd] at CP
  have CPH := Lib.hid CP
  have HX := Lib.hid XA
  clear XA X3 al5 CP
  go_wp2_with fail
  rw [← HW3.out]
  refine wp_region_held_drew (S := (fun w' => w'.cell? ⟨w2.heap.size, 0, none⟩ = some (.slice ag xs.length cg))) (by kernel_rfl) q4 (fun hHeld => ?_)
  refine wpAnyH_take (i := 0) (v := ?_) rfl (by kernel_rfl) (by kernel_rfl) (by kernel_rfl) (fun _ _ _ h => h) (Or.inl ⟨by first | kernel_rfl | rfl, ?_⟩) (by assumption) ?_
  rotate_left
  · intro w hSw
    (try dsimp only at hSw)
    (try go_split_ands)
    go_simp
    try with_reducible rfl
  (try simp only [Act.put, List.setIfInBounds_toArray, List.set_cons_zero, List.set_cons_succ])
  refine wpAnyH_take (i := 1) (v := ?_) rfl (by kernel_rfl) (by kernel_rfl) (by kernel_rfl) (fun _ _ _ h => h) (Or.inl ⟨by first | kernel_rfl | rfl, ?_⟩) (by assumption) ?_
  rotate_left
  · intro w hSw
    (try dsimp only at hSw)
    (try go_split_ands)
    go_simp
    try with_reducible rfl
  (try simp only [Act.put, List.setIfInBounds_toArray, List.set_cons_zero, List.set_cons_succ])
  refine wpAnyH_ready (rs := [2]) (by kernel_rfl) (by simp) ?_
  refine AllReadyH.cons rfl (fun K hK => ?_) AllReadyH.nil
  go_simp
  refine hK.out _ _ (q4a) (fun hHeld => ?_)
  clear hK K
  (try simp only [Act.put, List.setIfInBounds_toArray, List.set_cons_zero, List.set_cons_succ])
  refine wpAnyH_ready (rs := [3]) (by kernel_rfl) (by simp) ?_
  refine AllReadyH.cons rfl (fun K hK => ?_) AllReadyH.nil
  go_simp
  go_at_call 206
  refine CPH.out.mono ?_; rintro e w5 ⟨z, rfl, hz, hc5, g5⟩
  have X5 := HX.out.grown hc5 g5
  have q5 := cell_of_one X5.box
  have q6 := cell_of_one X5.res
  have f6 := free_of_one X5.res
  have hzw : (Lit.int .i64 z).wf = true := by
    simp only [List.mem_cons, List.not_mem_nil, or_false] at hz
    rcases hz with rfl | rfl | rfl | rfl | rfl | rfl | rfl | rfl | rfl <;> decide
  have q7 := World.cell?_setCell_same w5 ⟨w.heap.size, 0, none⟩ (.slice ag xs.length cg) q6
  clear hz hc5 g5
  refine hK.out _ _ q5 (fun hHeld => ?_)
  clear hK K
  (try simp only [Act.put, List.setIfInBounds_toArray, List.set_cons_zero, List.set_cons_succ])
  refine wpAnyH_ready (rs := [4]) (by kernel_rfl) (by simp) ?_
  refine AllReadyH.cons rfl (fun K hK => ?_) AllReadyH.nil
  go_simp
  refine hK.out _ _ ((cell_of_one (one_othr X5.box X5.hbx2))) (fun hHeld => ?_)
  clear hK K
  (try simp only [Act.put, List.setIfInBounds_toArray, List.set_cons_zero, List.set_cons_succ])
  refine wpAnyH_take (i := 5) (v := ?_) rfl (by kernel_rfl) (by kernel_rfl) (by kernel_rfl) (fun _ _ _ h => h) (Or.inl ⟨by first | kernel_rfl | rfl, ?_⟩) (by assumption) ?_
  rotate_left
  · intro w hSw
    (try dsimp only at hSw)
    (try go_split_ands)
    go_simp
    try with_reducible rfl
  (try simp only [Act.put, List.setIfInBounds_toArray, List.set_cons_zero, List.set_cons_succ])
  refine wpAnyH_done (by kernel_rfl) ?_ _
  (try simp only [List.getElem_toArray, List.getElem_cons_succ, List.getElem_cons_zero, Act.put, List.setIfInBounds_toArray, List.set_cons_zero, List.set_cons_succ])
  have HF := Lib.hid (X5.fin (.slice ag xs.length cg))
  clear X5 q5 q6 f6
  go_wp2_with fail
  exact bodyPost_ret (v := .tuple #[.agg #[.slice ag xs.length cg], .int .i64 z]) (by simp [results, Try.results48, go_sem, q7]) rfl ⟨xs, _, _, z, rfl, hxl, hzw, HF.out⟩
/-- What a draw of a list leaves. -/
def DrewL (w : World) (e : Ending) (w' : World) : Prop :=
  ∃ (l : List Int) (al : Option Addr) (cl : Nat), e = .returned (.slice al l.length cl) ∧ l.length ≤ 1000 ∧ OwnI w' w.heap.size al cl l ∧ Below w.heap.size w w'
theorem OwnI.addr {w : World} {B : Nat} {a : Option Addr} {cap : Nat} {xs : List Int} (h : OwnI w B a cap xs) (hx : 0 < xs.length) : ∃ g, a = some ⟨g, 0, none⟩ ∧ B ≤ g ∧ g < w.heap.size := by
  rcases h.2.2 with ⟨hv, hn⟩ | ⟨g, c, cur, hv, hg, hh, hnc, hcm, hcs, htake⟩
  · omega
  · simp only [Value.slice.injEq, true_and] at hv
    obtain ⟨rfl, rfl⟩ := hv
    exact ⟨g, rfl, hg, (Array.getElem?_eq_some_iff.1 hh).1⟩
set_option maxRecDepth 20000 in
set_option maxHeartbeats 3200000 in
theorem dIsAF_any (a : Option Addr) (cap n : Nat) (w : World) (hb : BtS w a cap n) (hn : n ≤ 2000000) :
    Calls Try.prog 122 #[.slice a n cap] w (DrewL w) := by
  have C1 := Lib.hid (new_any a cap n w hb hn)
  have CB := Lib.hid (fun cb (N : Int) w' hc (hN : N ≤ 2000000000) => below_any w a cap n cb N w' hc hn hN)
  have CN := Lib.hid (fun cb (N : Int) w' hc (hN : N ≤ 2000000000) => once_any w a cap n cb N w' hc hn hN)
  clear hb
  go_enter Try.func122, Try.ntmps122
  go_wp2_with fail
  refine C1.out.mono ?_; rintro e w1 ⟨cb, rfl, hc1⟩
  have hcbl := hc1.lt
  have hw0 := hc1.bel.size
  have al := (Below.refl w1.heap.size w1).alloc (Nat.le_refl _) (.cells #[] 3)
  have hcm := hc1.below al
  have hm := OwnI.made_at (w := w1) (B := w1.heap.size) (n := w1.heap.size) rfl (Nat.le_refl _)
  have hs1 : w1.heap.size ≤ (w1.alloc (.cells #[] 3)).heap.size := by simp
  clear hc1 C1 al
  go_wp2_with fail
  refine (CB.out cb _ _ hcm (by omega)).mono ?_; rintro e w2 ⟨x0, rfl, hx0, hc2, g2⟩
  have o2 := hm.cur g2 hcbl
  have hs2 := Nat.le_trans hs1 g2.size
  have hx3 : x0 < 3 := by omega
  clear hm hcm g2 hx0 hs1
  go_wp2_with fail
  refine (CB.out cb _ _ hc2 (by omega)).mono ?_; rintro e w3 ⟨m, rfl, hm6, hc3, g3⟩
  have o3 := o2.cur g3 hcbl
  have hs3 := Nat.le_trans hs2 g3.size
  have hm5 : m < 6 := by omega
  clear o2 hc2 g3 hm6 hs2
  go_wp2_with fail
  go_loopw [4, 5, 6] (fun vl vx vi wr => ∃ (i x : Nat) (l : List Int) (al : Option Addr) (cl : Nat), i ≤ 5 ∧ vi = .int .i64 (i : Int) ∧ vx = .int .i64 (x : Int) ∧ vl = .slice al l.length cl ∧ l.length + i ≤ 5 ∧ x ≤ 3 + 5 * l.length ∧ OwnI wr w1.heap.size al cl l ∧ CW w a n cap cb wr ∧ w1.heap.size ≤ wr.heap.size) (fun _ _ vi _ => (intOf vi).toNat)
  case atStart => exact ⟨m, x0, [], _, _, by omega, rfl, rfl, rfl, by simp; omega, by simp; omega, o3, hc3, hs3⟩
  case round =>
    clear o3 hc3 hs3
    obtain ⟨i, x, l, al, cl, hi, rfl, rfl, rfl, hll, hxx, o4, hc4, hs4⟩ := hrel
    by_cases hi0 : 0 < i
    · have hii : (0 : Int) < i := by omega
      have hxw : (Lit.int .i64 (x : Int)).wf = true := wf_of (by omega) (by omega)
      have hl1 : l.length ≤ 2000000 := by omega
      go_wp2_with (at_builtin; refine wpList_app rfl _ _ rfl w1.heap.size _ _ l (x : Int) rfl rfl o4 hxw hl1 hs4 ?_)
      intro a5 c5 w5 o5 hb5
      have hb5' := hb5 wr (Below.refl _ _)
      have hc5 := hc4.belowB hb5' hcbl hw0
      have hs5 := Nat.le_trans hs4 hb5'.size
      have hkk : (i : Int) - 1 = ((i - 1 : Nat) : Int) := by omega
      clear o4 hc4 hb5 hb5' hs4 hxw
      go_wp2_with fail
      refine (CB.out cb _ _ hc5 (by omega)).mono ?_; rintro e w6 ⟨y, rfl, hy, hc6, g6⟩
      have o6 := o5.cur g6 hcbl
      have hs6 := Nat.le_trans hs5 g6.size
      have hy4 : y < 4 := by omega
      have hwx : IntKind.i64.wrap ((x : Int) + 1) = (x : Int) + 1 := by rw [IntKind.wrap_i64]; omega
      have hwy : IntKind.i64.wrap ((x : Int) + 1 + (y : Int)) = ((x + 1 + y : Nat) : Int) := by rw [IntKind.wrap_i64]; omega
      clear o5 hc5 g6 hs5 hy
      go_wp2_with fail
      go_roundw
      case rel => exact ⟨i - 1, x + 1 + y, l ++ [(x : Int)], a5, c5, by omega, by first | rfl | rw [hkk], by first | rfl | (congr 1; omega), by simp, by simp; omega, by simp; omega, o6, hc6, hs6⟩
      case measure => simp [intOf]; omega
    · have hii : (i : Int) ≤ 0 := by omega
      clear hi hi0 hxx
      by_cases hl0 : 0 < l.length
      · obtain ⟨g, rfl, hgB, hgl⟩ := o4.addr hl0
        have hl0i : (0 : Int) < l.length := by omega
        go_wp2_with fail
        refine (CN.out cb _ _ hc4 (by omega)).mono ?_; rintro e w5 ⟨b, rfl, hc5, g5⟩
        have o5 := o4.cur g5 hcbl
        have hs5 := Nat.le_trans hs4 g5.size
        clear o4 hc4 g5 hs4
        cases b with
        | true =>
          have hcb5 : cb < w5.heap.size := by omega
          have al5 := (Below.refl w5.heap.size w5).alloc (Nat.le_refl _) (.cells #[.int .i64 (-1), .int .i64 1001, .int .i64 5, .int .i64 (-9223372036854775808)] 3)
          have CP := pick_any w a cap n cb (some ⟨w5.heap.size, 0, none⟩) 4 [-1, 1001, 5, -9223372036854775808] (w5.alloc (.cells #[.int .i64 (-1), .int .i64 1001, .int .i64 5, .int .i64 (-9223372036854775808)] 3)) (hc5.below al5) hn (Ints.litL rfl _ (by decide) (by simp)) (fun y hy => by cases hy; simp; omega) (by simp) (by simp)
          simp only [List.length_cons, List.length_nil, Nat.zero_add, Nat.reduceAdd] at CP
          have CPH := Lib.hid CP
          have o6 := o5.below al5 (Nat.le_refl _)
          clear CP o5 hc5 al5
          go_wp2_with fail
          refine CPH.out.mono ?_; rintro e w8 ⟨z, rfl, hz, hc8, g8⟩
          have hzw : (Lit.int .i64 z).wf = true := by
            simp only [List.mem_cons, List.not_mem_nil, or_false] at hz
            rcases hz with rfl | rfl | rfl | rfl <;> decide
          have o8 := o6.cur g8 hcbl
          have o9 := Lib.hid (o8.set 0 z hzw)
          have q8 := o8.cell 0 hl0
          have f8 := o8.frozen 0
          have B8 := Lib.hid (hc8.bel.setCell (show w.heap.size ≤ g by omega) (.int .i64 z) (p := ⟨g, 0, none⟩))
          clear hz o6 g8 CPH o8 hc8
          go_wp2_with fail
          go_ret
          exact ⟨l.set 0 z, _, _, by simp, by simp; omega, o9.out.mono hw0, B8.out⟩
        | false =>
          go_wp2_with fail
          go_ret
          exact ⟨l, _, _, rfl, by omega, o5.mono hw0, hc5.bel⟩
      · have hl0i : ¬ (0 : Int) < l.length := by omega
        have hl0e : (l.length : Int) = 0 := by omega
        go_wp2_with fail
        go_ret
        exact ⟨l, _, _, rfl, by omega, o4.mono hw0, hc4.bel⟩
end Go.Proofs.Ytbidkjhgodkamaa
