/-
The draws of FnCoefficients. Conditions: codes of at most 2000000 bytes.
-/
import Derived.Test.YtbidkjhgodkamaaDrw4
import Derived.Test.YtbidkjhgodkamaaRst
namespace Go.Proofs.Ytbidkjhgodkamaa
open Go.RowKit Go.ChangeShapes
set_option linter.unusedVariables false
set_option linter.unusedSimpArgs false

set_option maxHeartbeats 1600000 in
theorem l26P_any (w0 : World) (a : Option Addr) (cap n cb : Nat) (w : World) (hc : CW w0 a n cap cb w) (hn : n ≤ 2000000) :
    Calls Try.prog 246 #[.pointer (some ⟨cb, 0, none⟩)] w fun e w' => ∃ p : Int, e = .returned (.int .i64 p) ∧ -1 ≤ p ∧ p ≤ 29 ∧ CW w0 a n cap cb w' ∧ w.grownBy w' (some cb) := by
  have hcbl := hc.lt
  have CN := Lib.hid (once_any w0 a cap n cb 14 _ hc hn (by omega))
  clear hc
  go_enter Try.func246, Try.ntmps246
  go_wp2_with fail
  refine CN.out.mono ?_; rintro e w1 ⟨b, rfl, hc1, g1⟩
  have hcb1 := hc1.lt
  clear CN
  cases b with
  | true =>
    have al5 := (Below.refl w1.heap.size w1).alloc (Nat.le_refl _) (.cells #[.int .i64 0, .int .i64 1, .int .i64 4, .int .i64 29, .int .i64 (-1)] 3)
    have CP := pick_any w0 a cap n cb (some ⟨w1.heap.size, 0, none⟩) 5 [0, 1, 4, 29, -1] (w1.alloc (.cells #[.int .i64 0, .int .i64 1, .int .i64 4, .int .i64 29, .int .i64 (-1)] 3)) (hc1.below al5) hn (Ints.litL rfl _ (by decide) (by simp)) (fun y hy => by cases hy; simp; omega) (by simp) (by simp)
    simp only [List.length_cons, List.length_nil, Nat.zero_add, Nat.reduceAdd] at CP
    have CPH := Lib.hid CP
    have G7 := grown_trans g1 (grown_of al5 _)
    clear CP hc1 g1 al5
    go_wp2_with fail
    refine CPH.out.mono ?_; rintro e w8 ⟨z, rfl, hz, hc8, g8⟩
    have hzb : -1 ≤ z ∧ z ≤ 29 := by
      simp only [List.mem_cons, List.not_mem_nil, or_false] at hz
      omega
    have G8 := grown_trans G7 g8
    clear hz G7 g8 CPH
    go_wp2_with fail
    go_ret
    exact ⟨_, rfl, hzb.1, hzb.2, hc8, G8⟩
  | false =>
    have al5 := (Below.refl w1.heap.size w1).alloc (Nat.le_refl _) (.cells #[.int .i64 2, .int .i64 3, .int .i64 5, .int .i64 7, .int .i64 11, .int .i64 13] 3)
    have CP := pick_any w0 a cap n cb (some ⟨w1.heap.size, 0, none⟩) 6 [2, 3, 5, 7, 11, 13] (w1.alloc (.cells #[.int .i64 2, .int .i64 3, .int .i64 5, .int .i64 7, .int .i64 11, .int .i64 13] 3)) (hc1.below al5) hn (Ints.litL rfl _ (by decide) (by simp)) (fun y hy => by cases hy; simp; omega) (by simp) (by simp)
    simp only [List.length_cons, List.length_nil, Nat.zero_add, Nat.reduceAdd] at CP
    have CPH := Lib.hid CP
    have G7 := grown_trans g1 (grown_of al5 _)
    clear CP hc1 g1 al5
    go_wp2_with fail
    refine CPH.out.mono ?_; rintro e w8 ⟨z, rfl, hz, hc8, g8⟩
    have hzb : -1 ≤ z ∧ z ≤ 29 := by
      simp only [List.mem_cons, List.not_mem_nil, or_false] at hz
      omega
    have G8 := grown_trans G7 g8
    clear hz G7 g8 CPH
    go_wp2_with fail
    go_ret
    exact ⟨_, rfl, hzb.1, hzb.2, hc8, G8⟩
set_option maxHeartbeats 1600000 in
theorem l26Three_any (a : Option Addr) (cap n : Nat) (w : World) (hb : BtS w a cap n) (hn : n ≤ 2000000) :
    Calls Try.prog 250 #[.slice a n cap] w fun e w' => ∃ x y z : Int, e = .returned (.tuple #[.int .i64 x, .int .i64 y, .int .i64 z]) ∧ (-1 ≤ x ∧ x ≤ 29) ∧ (-1 ≤ y ∧ y ≤ 29) ∧ (-1 ≤ z ∧ z ≤ 29) ∧ Below w.heap.size w w' := by
  have C1 := Lib.hid (new_any a cap n w hb hn)
  go_enter Try.func250, Try.ntmps250
  go_wp2_with fail
  refine C1.out.mono ?_; rintro e w1 ⟨cb, rfl, hc1⟩
  go_wp2_with fail
  refine (l26P_any w a cap n cb w1 hc1 hn).mono ?_; rintro e w2 ⟨p, rfl, hp1, hp2, hc2, g2⟩
  go_wp2_with fail
  refine (below_any w a cap n cb 9 w2 hc2 hn (by omega)).mono ?_; rintro e w3 ⟨x, rfl, hx, hc3, g3⟩
  go_wp2_with fail
  refine (below_any w a cap n cb 9 w3 hc3 hn (by omega)).mono ?_; rintro e w4 ⟨y, rfl, hy, hc4, g4⟩
  go_wp2_with fail
  exact bodyPost_ret (v := .tuple #[.int .i64 p, .int .i64 (x : Int), .int .i64 (y : Int)]) (by simp [results, Try.results250, go_sem]) rfl ⟨_, _, _, rfl, by omega, by omega, by omega, hc4.bel⟩
set_option maxHeartbeats 1600000 in
theorem dDistinct_any (a : Option Addr) (cap n : Nat) (w : World) (hb : BtS w a cap n) (hn : n ≤ 2000000) :
    Calls Try.prog 136 #[.slice a n cap] w fun e w' => ∃ x y z : Int, e = .returned (.tuple #[.int .i64 x, .int .i64 y, .int .i64 z]) ∧ (-1 ≤ x ∧ x ≤ 29) ∧ (-1 ≤ y ∧ y ≤ 29) ∧ (-1 ≤ z ∧ z ≤ 29) ∧ Below w.heap.size w w' := by
  have C1 := Lib.hid (l26Three_any a cap n w hb hn)
  go_enter Try.func136, Try.ntmps136
  go_wp2_with fail
  refine C1.out.mono ?_; rintro e w2 ⟨x, y, z, rfl, hx, hy, hz, b2⟩
  go_wp2_with fail
  exact bodyPost_ret (v := .tuple #[.int .i64 y, .int .i64 z, .int .i64 x]) (by simp [results, Try.results136, go_sem]) rfl ⟨_, _, _, rfl, hy, hz, hx, b2⟩
set_option maxHeartbeats 1600000 in
theorem dCauchy_any (a : Option Addr) (cap n : Nat) (w : World) (hb : BtS w a cap n) (hn : n ≤ 2000000) :
    Calls Try.prog 137 #[.slice a n cap] w fun e w' => ∃ x y z : Int, e = .returned (.tuple #[.int .i64 x, .int .i64 y, .int .i64 z]) ∧ (-1 ≤ x ∧ x ≤ 29) ∧ (-1 ≤ y ∧ y ≤ 29) ∧ (-1 ≤ z ∧ z ≤ 29) ∧ Below w.heap.size w w' := by
  have C1 := Lib.hid (l26Three_any a cap n w hb hn)
  go_enter Try.func137, Try.ntmps137
  go_wp2_with fail
  refine C1.out.mono ?_; rintro e w2 ⟨x, y, z, rfl, hx, hy, hz, b2⟩
  go_wp2_with fail
  exact bodyPost_ret (v := .tuple #[.int .i64 x, .int .i64 y, .int .i64 z]) (by simp [results, Try.results137, go_sem]) rfl ⟨_, _, _, rfl, hx, hy, hz, b2⟩
set_option maxHeartbeats 1600000 in
theorem dHeilbronn_any (a : Option Addr) (cap n : Nat) (w : World) (hb : BtS w a cap n) (hn : n ≤ 2000000) :
    Calls Try.prog 139 #[.slice a n cap] w fun e w' => ∃ x y z : Int, e = .returned (.tuple #[.int .i64 x, .int .i64 y, .int .i64 z]) ∧ (-1 ≤ x ∧ x ≤ 29) ∧ (-1 ≤ y ∧ y ≤ 29) ∧ (-1 ≤ z ∧ z ≤ 29) ∧ Below w.heap.size w w' := by
  have C1 := Lib.hid (l26Three_any a cap n w hb hn)
  go_enter Try.func139, Try.ntmps139
  go_wp2_with fail
  refine C1.out.mono ?_; rintro e w2 ⟨x, y, z, rfl, hx, hy, hz, b2⟩
  go_wp2_with fail
  exact bodyPost_ret (v := .tuple #[.int .i64 x, .int .i64 y, .int .i64 z]) (by simp [results, Try.results139, go_sem]) rfl ⟨_, _, _, rfl, hx, hy, hz, b2⟩
set_option maxHeartbeats 1600000 in
theorem dBinomial_any (a : Option Addr) (cap n : Nat) (w : World) (hb : BtS w a cap n) (hn : n ≤ 2000000) :
    Calls Try.prog 135 #[.slice a n cap] w fun e w' => ∃ x y z : Int, e = .returned (.tuple #[.int .i64 x, .int .i64 y, .int .i64 z]) ∧ (-1 ≤ x ∧ x ≤ 29) ∧ (-1 ≤ y ∧ y ≤ 29) ∧ (-1 ≤ z ∧ z ≤ 29) ∧ Below w.heap.size w w' := by
  have C1 := Lib.hid (new_any a cap n w hb hn)
  go_enter Try.func135, Try.ntmps135
  go_wp2_with fail
  refine C1.out.mono ?_; rintro e w1 ⟨cb, rfl, hc1⟩
  go_wp2_with fail
  refine (l26P_any w a cap n cb w1 hc1 hn).mono ?_; rintro e w2 ⟨p, rfl, hp1, hp2, hc2, g2⟩
  go_wp2_with fail
  refine (below_any w a cap n cb 20 w2 hc2 hn (by omega)).mono ?_; rintro e w3 ⟨x, rfl, hx, hc3, g3⟩
  have hw1 : IntKind.i64.wrap ((x : Int) - 1) = (x : Int) - 1 := by rw [IntKind.wrap_i64]; omega
  go_wp2_with fail
  refine (below_any w a cap n cb 12 w3 hc3 hn (by omega)).mono ?_; rintro e w4 ⟨y, rfl, hy, hc4, g4⟩
  have hw2 : IntKind.i64.wrap ((y : Int) - 1) = (y : Int) - 1 := by rw [IntKind.wrap_i64]; omega
  go_wp2_with fail
  exact bodyPost_ret (v := .tuple #[.int .i64 ((x : Int) - 1), .int .i64 ((y : Int) - 1), .int .i64 p]) (by simp [results, Try.results135, go_sem]) rfl ⟨_, _, _, rfl, by omega, by omega, by omega, hc4.bel⟩
set_option maxHeartbeats 1600000 in
theorem dCoefficient_any (a : Option Addr) (cap n : Nat) (w : World) (hb : BtS w a cap n) (hn : n ≤ 2000000) :
    Calls Try.prog 134 #[.slice a n cap] w fun e w' => ∃ x y z u : Int, e = .returned (.tuple #[.int .i64 x, .int .i64 y, .int .i64 z, .int .i64 u]) ∧ Below w.heap.size w w' := by
  have C1 := Lib.hid (new_any a cap n w hb hn)
  go_enter Try.func134, Try.ntmps134
  go_wp2_with fail
  refine C1.out.mono ?_; rintro e w1 ⟨cb, rfl, hc1⟩
  go_wp2_with fail
  refine (l26P_any w a cap n cb w1 hc1 hn).mono ?_; rintro e w2 ⟨p, rfl, hp1, hp2, hc2, g2⟩
  go_wp2_with fail
  refine (below_any w a cap n cb 8 w2 hc2 hn (by omega)).mono ?_; rintro e w3 ⟨x, rfl, hx, hc3, g3⟩
  go_wp2_with fail
  refine (below_any w a cap n cb 8 w3 hc3 hn (by omega)).mono ?_; rintro e w4 ⟨y, rfl, hy, hc4, g4⟩
  have hw2 : IntKind.i64.wrap ((y : Int) - 1) = (y : Int) - 1 := by rw [IntKind.wrap_i64]; omega
  have hw3 : IntKind.i64.wrap ((x : Int) + ((y : Int) - 1)) = (x : Int) + ((y : Int) - 1) := by rw [IntKind.wrap_i64]; omega
  go_wp2_with fail
  refine (once_any w a cap n cb 3 w4 hc4 hn (by omega)).mono ?_; rintro e w5 ⟨b, rfl, hc5, g5⟩
  cases b with
  | true =>
    go_wp2_with fail
    exact bodyPost_ret (v := .tuple #[.int .i64 (x : Int), .int .i64 (x : Int), .int .i64 ((y : Int) - 1), .int .i64 p]) (by simp [results, Try.results134, go_sem]) rfl ⟨_, _, _, _, rfl, hc5.bel⟩
  | false =>
    go_wp2_with fail
    exact bodyPost_ret (v := .tuple #[.int .i64 ((x : Int) + ((y : Int) - 1)), .int .i64 (x : Int), .int .i64 ((y : Int) - 1), .int .i64 p]) (by simp [results, Try.results134, go_sem]) rfl ⟨_, _, _, _, rfl, hc5.bel⟩
/-- The cursor and a group in its box. -/
structure Cx (w0 : World) (a : Option Addr) (n cap cb bx : Nat) (ag : Option Addr) (cg B : Nat) (xs : List Int) (W : World) : Prop where
  cw : CW w0 a n cap cb W
  box : W.heap[bx]? = some (.cells #[.slice ag xs.length cg] 26 (0, 0))
  own : OwnI W B ag cg xs
  hB : cb < B
  hbx : bx ≠ cb
theorem Cx.below {w0 : World} {a : Option Addr} {n cap cb bx : Nat} {ag : Option Addr} {cg B : Nat} {xs : List Int} {W W1 : World} (h : Cx w0 a n cap cb bx ag cg B xs W) (hb : Below W.heap.size W W1) : Cx w0 a n cap cb bx ag cg B xs W1 :=
  ⟨h.cw.below hb, one_below h.box hb (Nat.le_refl _), h.own.below hb (Nat.le_refl _), h.hB, h.hbx⟩
theorem Cx.grown {w0 : World} {a : Option Addr} {n cap cb bx : Nat} {ag : Option Addr} {cg B : Nat} {xs : List Int} {W W1 : World} (h : Cx w0 a n cap cb bx ag cg B xs W) (hc : CW w0 a n cap cb W1) (hg : W.grownBy W1 (some cb)) : Cx w0 a n cap cb bx ag cg B xs W1 :=
  ⟨hc, one_grown h.box hg (by simpa using h.hbx), h.own.cur hg h.hB, h.hB, h.hbx⟩
theorem Cx.start {w0 : World} {a : Option Addr} {n cap cb : Nat} {ag : Option Addr} {cg B : Nat} {xs : List Int} {W : World} (hc : CW w0 a n cap cb W) (ho : OwnI W B ag cg xs) (hB : cb < B) : Cx w0 a n cap cb W.heap.size ag cg B xs (W.alloc (.cells #[.slice ag xs.length cg] 26)) := by
  have al := (Below.refl W.heap.size W).alloc (Nat.le_refl _) (.cells #[.slice ag xs.length cg] 26)
  have := hc.lt
  exact ⟨hc.below al, new_at rfl, ho.below al (Nat.le_refl _), hB, by omega⟩
theorem sosV_wf (os : List Int) (a b : Int) : (Lit.int .i64 (sosV os a b)).wf = true := by
  unfold sosV
  split
  · rename_i h
    obtain ⟨m, h1, h2, h3, hg, h4, h5⟩ := setB_bd h.1
    have := sumS_lt hg b.toNat a.toNat
    have e : (2 : Nat) ^ 24 = 16777216 := by decide
    exact wf_of (by omega) (by omega)
  · decide
set_option maxRecDepth 20000 in
set_option maxHeartbeats 3200000 in
theorem dZeroGrid_any (a : Option Addr) (cap n : Nat) (w : World) (hb : BtS w a cap n) (hn : n ≤ 2000000) :
    Calls Try.prog 127 #[.slice a n cap] w fun e w' => ∃ p x y z : Int, e = .returned (.tuple #[.int .i64 p, .int .i64 x, .int .i64 y, .int .i64 z]) ∧ -1 ≤ p ∧ p ≤ 29 ∧ (Lit.int .i64 x).wf = true ∧ (Lit.int .i64 y).wf = true ∧ (Lit.int .i64 z).wf = true ∧ Below w.heap.size w w' := by
  have C1 := Lib.hid (new_any a cap n w hb hn)
  go_enter Try.func127, Try.ntmps127
  go_wp2_with fail
  refine C1.out.mono ?_; rintro e w1 ⟨cb, rfl, hc1⟩
  clear C1
  go_wp2_with fail
  refine (l26P_any w a cap n cb w1 hc1 hn).mono ?_; rintro e w2 ⟨p, rfl, hp1, hp2, hc2, g2⟩
  have hcb2 := hc2.lt
  have hpw : (Lit.int .i64 p).wf = true := wf_of (by omega) (by omega)
  have al := (Below.refl w2.heap.size w2).alloc (Nat.le_refl _) (.cells #[.int .i64 p] 3)
  have og := OwnI.one (w := w2) (B := w2.heap.size) (x := p) rfl (Nat.le_refl _) hpw
  have X3 := Cx.start (xs := [p]) (hc2.below al) og hcb2
  rw [show (w2.alloc (.cells #[.int .i64 p] 3)).heap.size = w2.heap.size + 1 by simp] at X3
  obtain ⟨xs, hxs⟩ : ∃ xs, xs = [p] := ⟨_, rfl⟩
  have hl1 : xs.length = 1 := by rw [hxs]; rfl
  obtain ⟨W4, hW4⟩ : ∃ W, W = (w2.alloc (.cells #[.int .i64 p] 3)).alloc (.cells #[.slice (some ⟨w2.heap.size, 0, none⟩) 1 1] 26) := ⟨_, rfl⟩
  have X4 : Cx w a n cap cb (w2.heap.size + 1) (some ⟨w2.heap.size, 0, none⟩) 1 w2.heap.size xs W4 := by rw [hW4, hxs]; exact X3
  have q4 := cell_of_one X4.box
  rw [hl1] at q4
  have CL := Lib.hid (fun W (X : Cx w a n cap cb (w2.heap.size + 1) (some ⟨w2.heap.size, 0, none⟩) 1 w2.heap.size xs W) => by
    have h := l3Set_any w a cap n cb (some ⟨w2.heap.size, 0, none⟩) 1 xs W X.cw hn X.own.ints (by omega)
    rw [hl1] at h
    exact h)
  have CS := Lib.hid (fun x y W (X : Cx w a n cap cb (w2.heap.size + 1) (some ⟨w2.heap.size, 0, none⟩) 1 w2.heap.size xs W) => by
    have h := sos_spec (some ⟨w2.heap.size, 0, none⟩) 1 xs x y W X.own.ints (by omega)
    rw [hl1] at h
    exact h)
  have HW4 := Lib.hid hW4
  have HL1 := Lib.hid hl1
  have HWS := Lib.hid (sosV_wf xs)
  clear X3 al og hpw hxs hl1 hW4 hc2 g2 hc1
  go_wp2_with fail
  rw [← HW4.out]
  refine (CL.out _ X4).mono ?_; rintro e w5 ⟨x, rfl, hx, hc5, g5⟩
  have X5 := X4.grown hc5 g5
  have q5 := cell_of_one X5.box
  rw [HL1.out] at q5
  clear X4 q4 hc5 g5
  go_wp2_with fail
  refine (CL.out _ X5).mono ?_; rintro e w6 ⟨y, rfl, hy, hc6, g6⟩
  have X6 := X5.grown hc6 g6
  have q6 := cell_of_one X6.box
  rw [HL1.out] at q6
  clear X5 q5 hc6 g6
  go_wp2_with fail
  refine (once_any w a cap n cb 2 w6 X6.cw hn (by omega)).mono ?_; rintro e w7 ⟨b, rfl, hc7, g7⟩
  have X7 := X6.grown hc7 g7
  have q7 := cell_of_one X7.box
  rw [HL1.out] at q7
  clear X6 q6 hc7 g7
  cases b with
  | true =>
    go_wp2_with fail
    refine (CS.out x y _ X7).mono ?_; rintro e w8 ⟨rfl, b8⟩
    have B8 := (X7.below b8).cw.bel
    have hz := HWS.out x y
    clear X7 q7
    obtain ⟨z, hz2⟩ : ∃ z, z = sosV xs x y := ⟨_, rfl⟩
    rw [← hz2] at hz ⊢
    clear hz2
    go_wp2_with fail
    exact bodyPost_ret (v := .tuple #[.int .i64 p, .int .i64 x, .int .i64 y, .int .i64 z]) (by simp [results, Try.results127, go_sem]) rfl ⟨_, _, _, _, rfl, hp1, hp2, hx, hy, hz, B8⟩
  | false =>
    go_wp2_with fail
    refine (CL.out _ X7).mono ?_; rintro e w8 ⟨z, rfl, hz, hc8, g8⟩
    have B8 := hc8.bel
    clear X7 q7
    go_wp2_with fail
    exact bodyPost_ret (v := .tuple #[.int .i64 p, .int .i64 x, .int .i64 y, .int .i64 z]) (by simp [results, Try.results127, go_sem]) rfl ⟨_, _, _, _, rfl, hp1, hp2, hx, hy, hz, B8⟩
end Go.Proofs.Ytbidkjhgodkamaa
