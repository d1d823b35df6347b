/-
The draws of FnAutomorphisms. Conditions: codes of at most 2000000 bytes.
-/
import Derived.Test.YtokpgbpdmfibjaaDrw7
import Derived.Test.YtokpgbpdmfibjaaStb
namespace Go.Proofs.Ytokpgbpdmfibjaa
open Go.RowKit Go.ChangeShapes
set_option linter.unusedVariables false
set_option linter.unusedSimpArgs false

set_option maxHeartbeats 1600000 in
theorem l27Group_any (w0 : World) (a : Option Addr) (cap n cb : Nat) (w : World) (hc : CW w0 a n cap cb w) (hn : n ≤ 2000000) :
    Calls Try.prog 73 #[.pointer (some ⟨cb, 0, none⟩)] w (GaveC Any4 w0 a n cap cb w) := by
  have hcbl := hc.lt
  have hw0 := hc.bel.size
  have ha1 := (Below.refl w.heap.size w).alloc (Nat.le_refl _) (.cells #[.slice none 0 0] 26)
  have CN := Lib.hid (once_any w0 a cap n cb 8 _ (hc.below ha1) hn (by omega))
  have hr0 := new_at (w := w) (n := w.heap.size) (o := .cells #[.slice none 0 0] 26) rfl
  have G0 : w.grownBy (w.alloc (.cells #[.slice none 0 0] 26)) (some cb) := grown_of ha1 _
  clear hc ha1
  go_enter Try.func73, Try.ntmps73
  go_wp2_with fail
  refine CN.out.mono ?_; rintro e w1 ⟨b, rfl, hc1, g1⟩
  have hr1 := one_grown hr0 g1 (by simp; omega)
  have G1 := grown_trans G0 g1
  have hs1 : w.heap.size + 1 ≤ w1.heap.size := by have := g1.size; simpa using this
  clear CN hr0 G0 g1
  cases b with
  | true =>
    go_wp2_with fail
    refine (l2Any_any w0 a cap n cb w1 hc1 hn).mono ?_; rintro e w2 ⟨xs, ag, cg, rfl, hxs, og, hc2, g2⟩
    have hr2 := one_grown hr1 g2 (by simp; omega)
    have G2 := grown_trans G1 g2
    have hF := fin_g hc2 G2 hcbl hw0 og (by omega) (.slice ag xs.length cg)
    have HF := Lib.hid hF
    have q0 := cell_of_one hr2
    have f0 := free_of_one hr2
    clear hF og hc2 hr1 hr2 G1 G2 g2
    go_wp2_with fail
    exact bodyPost_ret (v := .agg #[.slice ag xs.length cg]) (by simp [results, Try.results73, go_sem, q0]) rfl ⟨xs, _, _, rfl, hxs, HF.out⟩
  | false =>
    go_wp2_with fail
    refine (l2Draw_any w0 a cap n cb 8 w1 hc1 hn (by omega) (by omega)).mono ?_; rintro e w2 ⟨xs, ag, cg, rfl, hxs, og, hc2, g2⟩
    have hr2 := one_grown hr1 g2 (by simp; omega)
    have G2 := grown_trans G1 g2
    have hF := fin_g hc2 G2 hcbl hw0 og (by omega) (.slice ag xs.length cg)
    have HF := Lib.hid hF
    have HXL := Lib.hid (grp_parts hxs).1
    have q0 := cell_of_one hr2
    have f0 := free_of_one hr2
    clear hF og hc2 hr1 hr2 G1 G2 g2 hxs
    go_wp2_with fail
    exact bodyPost_ret (v := .agg #[.slice ag xs.length cg]) (by simp [results, Try.results73, go_sem, q0]) rfl ⟨xs, _, _, rfl, (by have := HXL.out; unfold Any4; omega), HF.out⟩
/-- What a public draw of a group and two numbers leaves. -/
def DrewGII (w : World) (e : Ending) (w' : World) : Prop :=
  ∃ (xs : List Int) (ag : Option Addr) (cg : Nat) (x y : Int), e = .returned (.tuple #[.agg #[.slice ag xs.length cg], .int .i64 x, .int .i64 y]) ∧ xs.length ≤ 4 ∧ (Lit.int .i64 x).wf = true ∧ (Lit.int .i64 y).wf = true ∧ OwnI w' w.heap.size ag cg xs ∧ Below w.heap.size w w'
/-- What a public draw of a group and a list leaves. -/
def DrewGL (w : World) (e : Ending) (w' : World) : Prop :=
  ∃ (xs : List Int) (ag : Option Addr) (cg : Nat) (f : List Int) (af : Option Addr) (cf : Nat), e = .returned (.tuple #[.agg #[.slice ag xs.length cg], .slice af f.length cf]) ∧ xs.length ≤ 4 ∧ f.length ≤ 1000 ∧ OwnI w' w.heap.size ag cg xs ∧ OwnI w' w.heap.size af cf f ∧ Below w.heap.size w w'
/-- What a public draw of a group, a list and a number leaves. -/
def DrewGLI (w : World) (e : Ending) (w' : World) : Prop :=
  ∃ (xs : List Int) (ag : Option Addr) (cg : Nat) (f : List Int) (af : Option Addr) (cf : Nat) (x : Int), e = .returned (.tuple #[.agg #[.slice ag xs.length cg], .slice af f.length cf, .int .i64 x]) ∧ xs.length ≤ 4 ∧ f.length ≤ 1000 ∧ (Lit.int .i64 x).wf = true ∧ OwnI w' w.heap.size ag cg xs ∧ OwnI w' w.heap.size af cf f ∧ Below w.heap.size w w'
theorem OwnI.low {w : World} {B : Nat} {a : Option Addr} {c : Nat} {xs : List Int} (h : OwnI w B a c xs) {p : Addr} (hp : p.block < B) (u : Value) : OwnI (w.setCell p u) B a c xs :=
  ⟨h.1, ownsRow_setCell_below h.2 hp u⟩
theorem below_drewR {B : Nat} {a w : World} (h : Below B a w) : Below B a w.drew := ⟨h.os, h.tape, h.output, h.size, h.block⟩
theorem shf_wf (os : List Int) (a x : Int) : (Lit.int .i64 (shfV os a x)).wf = true := by
  unfold shfV
  split
  · rename_i h
    obtain ⟨hg, m, rfl, hm⟩ := setB_parts h.1
    have := orL_lt (f := gadd os x.toNat) (m := 24) (fun y => gadd_lt24 hg _ y) (mems ((m : Int)).toNat)
    have e : (2 : Nat) ^ 24 = 16777216 := by decide
    exact wf_of (by omega) (by omega)
  · decide
theorem shf_ex (a0 : Option Addr) (c0 : Nat) (os : List Int) (a x : Int) (w : World) (h0 : Ints w a0 c0 os) (hl : os.length ≤ 2000000) :
    Calls Try.prog 21 #[.agg #[.slice a0 os.length c0], .int .i64 a, .int .i64 x] w fun e w' => ∃ z : Int, e = .returned (.int .i64 z) ∧ (Lit.int .i64 z).wf = true ∧ Below w.heap.size w w' := by
  refine (shf_spec a0 c0 os a x w h0 hl).mono ?_
  rintro e w1 ⟨rfl, b⟩
  exact ⟨_, rfl, shf_wf os a x, b⟩
theorem Bx.belowB {w w0 : World} {a : Option Addr} {n cap cb bx : Nat} {ag : Option Addr} {cg B B' : Nat} {xs : List Int} {W W1 : World} (h : Bx w w0 a n cap cb bx ag cg B xs W) (hb : Below B' W W1) (h1 : cb < B') (h2 : bx < B') (h3 : ∀ x, ag = some x → x.block < B') (h4 : w0.heap.size ≤ B') : Bx w w0 a n cap cb bx ag cg B xs W1 := by
  have h5 := h.w0s
  exact ⟨h.cw.belowB hb h1 h4, by rw [hb.block bx h2]; exact h.box, h.own.below' hb h3, by rw [hb.block w.heap.size (by omega)]; exact h.res, h.bel.trans (hb.mono (by omega)), h.w0s, h.hB, h.hB2, h.hbx, h.hbx2⟩
theorem OwnR.cur {w w1 : World} {B cb : Nat} {a : Option Addr} {c n : Nat} {R : Nat → List Int} {vs : List Value} (h : OwnR w B a c n R vs) (g : w.grownBy w1 (some cb)) (hB : cb < B) : OwnR w1 B a c n R vs :=
  h.kept g (fun b hb he => by have := (h.outLt b hb).1; cases he; omega) (fun i v b hv hb he => by have := (h.rowLt i v b hv hb).1; cases he; omega)
set_option maxHeartbeats 1600000 in
theorem dAuts_any (a : Option Addr) (cap n : Nat) (w : World) (hb : BtS w a cap n) (hn : n ≤ 2000000) :
    Calls Try.prog 7 #[.slice a n cap] w (DrewG w) := by
  have ha1 := (Below.refl w.heap.size w).alloc (Nat.le_refl _) (.cells #[.slice none 0 0] 26)
  have hr0 := new_at (w := w) (n := w.heap.size) (o := .cells #[.slice none 0 0] 26) rfl
  obtain ⟨W0, hW0⟩ : ∃ W, W = w.alloc (.cells #[.slice none 0 0] 26) := ⟨_, rfl⟩
  rw [← hW0] at ha1 hr0
  have hs0 : W0.heap.size = w.heap.size + 1 := by rw [hW0]; simp
  have C1 := Lib.hid (new_any a cap n W0 (hb.below ha1 (Nat.le_refl _)) hn)
  have HW0 := Lib.hid hW0
  clear hW0 hb
  go_enter Try.func7, Try.ntmps7
  go_wp2_with fail
  rw [← HW0.out]
  refine C1.out.mono ?_; rintro e w1 ⟨cb, rfl, hc1⟩
  have hs1 := hc1.bel.size
  have CG := Lib.hid (l27Group_any W0 a cap n cb w1 hc1 hn)
  have hcbw := hc1.hcb
  have hlt1 : w.heap.size < w1.heap.size := by omega
  clear C1
  go_wp2_with fail
  refine CG.out.mono ?_; rintro e w2 ⟨xs, ag, cg, rfl, hxs, og, hc2, g2⟩
  have hr2 := one_below hr0 hc2.bel (Nat.le_refl _)
  have B2 := ha1.trans (hc2.bel.mono (show w.heap.size ≤ W0.heap.size by omega))
  have HF : OwnI (w2.setCell ⟨w.heap.size, 0, none⟩ (.slice ag xs.length cg)) w.heap.size ag cg xs ∧ Below w.heap.size w (w2.setCell ⟨w.heap.size, 0, none⟩ (.slice ag xs.length cg)) :=
    ⟨OwnI.mono ⟨og.1, ownsRow_setCell_below og.2 hlt1 _⟩ (by omega), B2.setCell (Nat.le_refl _) _⟩
  have HFH := Lib.hid HF
  have hxl : xs.length ≤ 4 := hxs
  have q0 := cell_of_one hr2
  have f0 := free_of_one hr2
  clear HF og hc2 hr0 hr2 g2 B2 ha1 hs0 hs1 hc1
  go_wp2_with fail
  exact bodyPost_ret (v := .agg #[.slice ag xs.length cg]) (by simp [results, Try.results7, go_sem, q0]) rfl ⟨xs, _, _, rfl, hxl, HFH.out⟩
set_option maxRecDepth 20000 in
set_option maxHeartbeats 3200000 in
theorem dCanonical_any (a : Option Addr) (cap n : Nat) (w : World) (hb : BtS w a cap n) (hn : n ≤ 2000000) :
    Calls Try.prog 23 #[.slice a n cap] w (DrewGI w) := by
  have ha1 := (Below.refl w.heap.size w).alloc (Nat.le_refl _) (.cells #[.slice none 0 0] 26)
  obtain ⟨W0, hW0⟩ : ∃ W, W = w.alloc (.cells #[.slice none 0 0] 26) := ⟨_, rfl⟩
  rw [← hW0] at ha1
  have C1 := Lib.hid (new_any a cap n W0 (hb.below ha1 (Nat.le_refl _)) hn)
  have CB := Lib.hid (fun cb (N : Int) w hc (hN : N ≤ 2000000000) => below_any W0 a cap n cb N w hc hn hN)
  have CN := Lib.hid (fun cb (N : Int) w hc (hN : N ≤ 2000000000) => once_any W0 a cap n cb N w hc hn hN)
  have HW0 := Lib.hid hW0
  clear hW0 hb ha1
  go_enter Try.func23, Try.ntmps23
  go_wp2_with fail
  rw [← HW0.out]
  refine C1.out.mono ?_; rintro e w1 ⟨cb, rfl, hc1⟩
  have hcb1 := hc1.lt
  have CG := Lib.hid (l27Group_any W0 a cap n cb w1 hc1 hn)
  clear C1 hc1
  go_wp2_with fail
  refine CG.out.mono ?_; rintro e w2 ⟨xs, ag, cg, rfl, hxs, og, hc2, g2⟩
  have X3 := Bx.start HW0.out hc2 og hcb1
  have hxl : xs.length ≤ 4 := hxs
  obtain ⟨W3, hW3⟩ : ∃ W, W = w2.alloc (.cells #[.slice ag xs.length cg] 26) := ⟨_, rfl⟩
  rw [← hW3] at X3
  have HW3 := Lib.hid hW3
  clear hW3 CG og hc2 g2 hxs
  have q4 := cell_of_one X3.box
  have CL := Lib.hid (l3Set_any W0 a cap n cb ag cg xs W3.drew X3.drew.cw hn X3.drew.own.ints (by omega))
  have HX := Lib.hid X3.drew
  clear X3
  go_wp2_with fail
  rw [← HW3.out]
  go_region_with (go_at_call 95; refine CL.out.mono ?_; rintro e w5 ⟨z, rfl, hz, hc5, g5⟩; have X5 := HX.out.grown hc5 g5; have q5 := cell_of_one X5.box; have q6 := cell_of_one X5.res; have f6 := free_of_one X5.res)
  all_goals
    have HF := Lib.hid (X5.fin (.slice ag xs.length cg))
    clear X5 q5
    go_wp2_with fail
    exact bodyPost_ret (v := .tuple #[.agg #[.slice ag xs.length cg], .int .i64 z]) (by simp [results, Try.results23, go_sem, q6]) rfl ⟨xs, _, _, z, rfl, hxl, hz, HF.out⟩
set_option maxRecDepth 20000 in
set_option maxHeartbeats 3200000 in
theorem dEquivalent_any (a : Option Addr) (cap n : Nat) (w : World) (hb : BtS w a cap n) (hn : n ≤ 2000000) :
    Calls Try.prog 25 #[.slice a n cap] w (DrewGII w) := by
  have ha1 := (Below.refl w.heap.size w).alloc (Nat.le_refl _) (.cells #[.slice none 0 0] 26)
  obtain ⟨W0, hW0⟩ : ∃ W, W = w.alloc (.cells #[.slice none 0 0] 26) := ⟨_, rfl⟩
  rw [← hW0] at ha1
  have C1 := Lib.hid (new_any a cap n W0 (hb.below ha1 (Nat.le_refl _)) hn)
  have CB := Lib.hid (fun cb (N : Int) w hc (hN : N ≤ 2000000000) => below_any W0 a cap n cb N w hc hn hN)
  have CN := Lib.hid (fun cb (N : Int) w hc (hN : N ≤ 2000000000) => once_any W0 a cap n cb N w hc hn hN)
  have HW0 := Lib.hid hW0
  clear hW0 hb ha1
  go_enter Try.func25, Try.ntmps25
  go_wp2_with fail
  rw [← HW0.out]
  refine C1.out.mono ?_; rintro e w1 ⟨cb, rfl, hc1⟩
  have hcb1 := hc1.lt
  have CG := Lib.hid (l27Group_any W0 a cap n cb w1 hc1 hn)
  clear C1 hc1
  go_wp2_with fail
  refine CG.out.mono ?_; rintro e w2 ⟨xs, ag, cg, rfl, hxs, og, hc2, g2⟩
  have X3 := Bx.start HW0.out hc2 og hcb1
  have hxl : xs.length ≤ 4 := hxs
  obtain ⟨W3, hW3⟩ : ∃ W, W = w2.alloc (.cells #[.slice ag xs.length cg] 26) := ⟨_, rfl⟩
  rw [← hW3] at X3
  have HW3 := Lib.hid hW3
  clear hW3 CG og hc2 g2 hxs
  have q3 := cell_of_one X3.box
  go_wp2_with fail
  rw [← HW3.out]
  refine (l3Set_any W0 a cap n cb ag cg xs _ X3.cw hn X3.own.ints (by omega)).mono ?_; rintro e w4 ⟨y, rfl, hy, hc4, g4⟩
  have X4 := X3.grown hc4 g4
  clear X3 hc4 g4 q3
  have q4 := cell_of_one X4.box
  go_wp2_with fail
  refine (CN.out cb _ _ X4.cw (by omega)).mono ?_; rintro e w5 ⟨b, rfl, hc5, g5⟩
  have X5 := X4.grown hc5 g5
  clear X4 hc5 g5 q4
  have q5 := cell_of_one X5.box
  cases b with
  | true =>
    have CE := Lib.hid (l2Element_any W0 a cap n cb ag cg xs w5.drew X5.drew.cw hn X5.drew.own.ints (fun y hy => by have := (X5.drew.own.lt y hy).1; have := X5.hB; omega) (by omega))
    have CS := Lib.hid (fun x w h => shf_ex ag cg xs y x w h (by omega))
    have HX := Lib.hid X5.drew
    clear X5
    go_wp2_with fail
    go_region_with (first | (go_at_call 98; refine CE.out.mono ?_; rintro e w6 ⟨x, rfl, hx, hc6, g6⟩; have X6 := HX.out.grown hc6 g6; have q6 := cell_of_one X6.box; have r6 := cell_of_one X6.res; have f6 := free_of_one X6.res) | (go_at_call 21; refine (CS.out x _ X6.own.ints).mono ?_; rintro e w7 ⟨z, rfl, hz, b7⟩; have X7 := X6.below b7; have q7 := cell_of_one X7.box; have r7 := cell_of_one X7.res; have f7 := free_of_one X7.res))
    all_goals
      have HF := Lib.hid (X7.fin (.slice ag xs.length cg))
      clear X7 q7 X6 q6 r6 f6
      go_wp2_with fail
      exact bodyPost_ret (v := .tuple #[.agg #[.slice ag xs.length cg], .int .i64 y, .int .i64 z]) (by simp [results, Try.results25, go_sem, r7]) rfl ⟨xs, _, _, y, z, rfl, hxl, hy, hz, HF.out⟩
  | false =>
    have CL := Lib.hid (l3Set_any W0 a cap n cb ag cg xs w5.drew X5.drew.cw hn X5.drew.own.ints (by omega))
    have HX := Lib.hid X5.drew
    clear X5
    go_wp2_with fail
    go_region_with (go_at_call 95; refine CL.out.mono ?_; rintro e w6 ⟨z, rfl, hz, hc6, g6⟩; have X6 := HX.out.grown hc6 g6; have q6 := cell_of_one X6.box; have r6 := cell_of_one X6.res; have f6 := free_of_one X6.res)
    all_goals
      have HF := Lib.hid (X6.fin (.slice ag xs.length cg))
      clear X6 q6
      go_wp2_with fail
      exact bodyPost_ret (v := .tuple #[.agg #[.slice ag xs.length cg], .int .i64 y, .int .i64 z]) (by simp [results, Try.results25, go_sem, r6]) rfl ⟨xs, _, _, y, z, rfl, hxl, hy, hz, HF.out⟩
set_option maxRecDepth 20000 in
set_option maxHeartbeats 3200000 in
theorem dCountCl_any (a : Option Addr) (cap n : Nat) (w : World) (hb : BtS w a cap n) (hn : n ≤ 2000000) :
    Calls Try.prog 28 #[.slice a n cap] w (DrewGI w) := by
  have ha1 := (Below.refl w.heap.size w).alloc (Nat.le_refl _) (.cells #[.slice none 0 0] 26)
  obtain ⟨W0, hW0⟩ : ∃ W, W = w.alloc (.cells #[.slice none 0 0] 26) := ⟨_, rfl⟩
  rw [← hW0] at ha1
  have C1 := Lib.hid (new_any a cap n W0 (hb.below ha1 (Nat.le_refl _)) hn)
  have CB := Lib.hid (fun cb (N : Int) w hc (hN : N ≤ 2000000000) => below_any W0 a cap n cb N w hc hn hN)
  have CN := Lib.hid (fun cb (N : Int) w hc (hN : N ≤ 2000000000) => once_any W0 a cap n cb N w hc hn hN)
  have HW0 := Lib.hid hW0
  clear hW0 hb ha1
  go_enter Try.func28, Try.ntmps28
  go_wp2_with fail
  rw [← HW0.out]
  refine C1.out.mono ?_; rintro e w1 ⟨cb, rfl, hc1⟩
  have hcb1 := hc1.lt
  have CG := Lib.hid (l2Draw_any W0 a cap n cb 7 w1 hc1 hn (by omega) (by omega))
  clear C1 hc1
  go_wp2_with fail
  refine CG.out.mono ?_; rintro e w2 ⟨xs, ag, cg, rfl, hxs, og, hc2, g2⟩
  have X3 := Bx.start HW0.out hc2 og hcb1
  have hxl : xs.length ≤ 4 := by have := (grp_parts hxs).1; omega
  obtain ⟨W3, hW3⟩ : ∃ W, W = w2.alloc (.cells #[.slice ag xs.length cg] 26) := ⟨_, rfl⟩
  rw [← hW3] at X3
  have HW3 := Lib.hid hW3
  clear hW3 CG og hc2 g2 hxs
  have q4 := cell_of_one X3.box
  have CL := Lib.hid (CB.out cb 9 W3.drew X3.drew.cw (by omega))
  have HX := Lib.hid X3.drew
  clear X3
  go_wp2_with fail
  rw [← HW3.out]
  go_region_with (go_at_call 99; refine CL.out.mono ?_; rintro e w5 ⟨x, rfl, hx, hc5, g5⟩; have X5 := HX.out.grown hc5 g5; have q5 := cell_of_one X5.box; have q6 := cell_of_one X5.res; have f6 := free_of_one X5.res; have hw5 : IntKind.i64.wrap ((x : Int) - 1) = (x : Int) - 1 := by rw [IntKind.wrap_i64]; omega)
  all_goals
    have HF := Lib.hid (X5.fin (.slice ag xs.length cg))
    have hz : (Lit.int .i64 ((x : Int) - 1)).wf = true := wf_of (by omega) (by omega)
    clear X5 q5
    go_wp2_with fail
    exact bodyPost_ret (v := .tuple #[.agg #[.slice ag xs.length cg], .int .i64 ((x : Int) - 1)]) (by simp [results, Try.results28, go_sem, q6]) rfl ⟨xs, _, _, _, rfl, hxl, hz, HF.out⟩
end Go.Proofs.Ytokpgbpdmfibjaa
