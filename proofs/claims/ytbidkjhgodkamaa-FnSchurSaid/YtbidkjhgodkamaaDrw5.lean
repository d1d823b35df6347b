/-
The draws of FnSchur: a coloring, a number of colors, two numbers, a group with its coloring. Conditions: codes of at most 2000000 bytes.
-/
import Derived.Test.YtbidkjhgodkamaaDrw4
namespace Go.Proofs.Ytbidkjhgodkamaa
open Go.RowKit Go.ChangeShapes
set_option linter.unusedVariables false

/-- What a draw of colors leaves. -/
def DrewLC (w : World) (e : Ending) (w' : World) : Prop :=
  ∃ (l : List Int) (al : Option Addr) (cl : Nat) (k : Int), e = .returned (.tuple #[.slice al l.length cl, .int .i64 k]) ∧ l.length ≤ 2000 ∧ (Lit.int .i64 k).wf = true ∧ OwnI w' w.heap.size al cl l ∧ Below w.heap.size w w'
set_option maxHeartbeats 800000 in
theorem l24Both_any (a : Option Addr) (cap n : Nat) (w : World) (hb : BtS w a cap n) (hn : n ≤ 2000000) :
    Calls Try.prog 239 #[.slice a n cap] w (DrewLC w) := by
  have C1 := Lib.hid (new_any a cap n w hb hn)
  go_enter Try.func239, Try.ntmps239
  go_wp2_with fail
  refine C1.out.mono ?_; rintro e w1 ⟨cb, rfl, hc1⟩
  have hs1 := hc1.bel.size
  go_wp2_with fail
  refine (l24Draw_any w a cap n cb w1 hc1 hn).mono ?_; rintro e w2 ⟨l, al, cl, k, rfl, hl, hk, o2, hc2, g2⟩
  go_wp2_with fail
  go_ret2
  exact ⟨l, _, _, k, rfl, hl, hk, o2.mono hs1, hc2.bel⟩
set_option maxHeartbeats 800000 in
theorem dIsSchur_any (a : Option Addr) (cap n : Nat) (w : World) (hb : BtS w a cap n) (hn : n ≤ 2000000) :
    Calls Try.prog 101 #[.slice a n cap] w (DrewLC w) := by
  have C1 := Lib.hid (l24Both_any a cap n w hb hn)
  go_enter Try.func101, Try.ntmps101
  go_wp2_with fail
  refine C1.out.mono ?_; rintro e w2 ⟨l, al, cl, k, rfl, hl, hk, o2, b2⟩
  go_wp2_with fail
  go_ret2
  exact ⟨l, _, _, k, rfl, hl, hk, o2, b2⟩
set_option maxHeartbeats 800000 in
theorem dLongest_any (a : Option Addr) (cap n : Nat) (w : World) (hb : BtS w a cap n) (hn : n ≤ 2000000) :
    Calls Try.prog 94 #[.slice a n cap] w fun e w' => ∃ x : Int, e = .returned (.int .i64 x) ∧ -1 ≤ x ∧ x ≤ 4 ∧ Below w.heap.size w w' := by
  have C1 := Lib.hid (new_any a cap n w hb hn)
  go_enter Try.func94, Try.ntmps94
  go_wp2_with fail
  refine C1.out.mono ?_; rintro e w1 ⟨cb, rfl, hc1⟩
  go_wp2_with fail
  refine (below_any w a cap n cb 6 w1 hc1 hn (by omega)).mono ?_; rintro e w2 ⟨x, rfl, hx, hc2, g2⟩
  have hw : IntKind.i64.wrap ((x : Int) - 1) = (x : Int) - 1 := by rw [IntKind.wrap_i64]; omega
  go_wp2_with fail
  go_ret
  exact ⟨_, rfl, by omega, by omega, hc2.bel⟩
set_option maxHeartbeats 800000 in
theorem dCount_any (a : Option Addr) (cap n : Nat) (w : World) (hb : BtS w a cap n) (hn : n ≤ 2000000) :
    Calls Try.prog 105 #[.slice a n cap] w fun e w' => ∃ k m : Int, e = .returned (.tuple #[.int .i64 k, .int .i64 m]) ∧ 0 ≤ k ∧ k ≤ 4 ∧ -1 ≤ m ∧ m ≤ 14 ∧ Below w.heap.size w w' := by
  have C1 := Lib.hid (new_any a cap n w hb hn)
  go_enter Try.func105, Try.ntmps105
  go_wp2_with fail
  refine C1.out.mono ?_; rintro e w1 ⟨cb, rfl, hc1⟩
  go_wp2_with fail
  refine (below_any w a cap n cb 5 w1 hc1 hn (by omega)).mono ?_; rintro e w2 ⟨k, rfl, hk, hc2, g2⟩
  go_wp2_with fail
  refine (below_any w a cap n cb 16 w2 hc2 hn (by omega)).mono ?_; rintro e w3 ⟨x, rfl, hx, hc3, g3⟩
  have hw : IntKind.i64.wrap ((x : Int) - 1) = (x : Int) - 1 := by rw [IntKind.wrap_i64]; omega
  go_wp2_with fail
  go_ret2
  exact ⟨_, _, rfl, by omega, by omega, by omega, by omega, hc3.bel⟩
/-- What the draw of a group with its coloring leaves. -/
def DrewGL (w : World) (e : Ending) (w' : World) : Prop :=
  ∃ (xs : List Int) (ag : Option Addr) (cg : Nat) (l : List Int) (al : Option Addr) (cl : Nat), e = .returned (.tuple #[.agg #[.slice ag xs.length cg], .slice al l.length cl]) ∧ xs.length ≤ 2000 ∧ l.length ≤ 2000 ∧ OwnI w' w.heap.size ag cg xs ∧ OwnI w' w.heap.size al cl l ∧ Below w.heap.size w w'
set_option maxRecDepth 20000 in
set_option maxHeartbeats 3200000 in
theorem dGroup_any (a : Option Addr) (cap n : Nat) (w : World) (hb : BtS w a cap n) (hn : n ≤ 2000000) :
    Calls Try.prog 106 #[.slice a n cap] w (DrewGL w) := by
  have ha1 := (Below.refl w.heap.size w).alloc (Nat.le_refl _) (.cells #[.slice none 0 0] 26)
  have hr0 := new_at (w := w) (n := w.heap.size) (o := .cells #[.slice none 0 0] 26) rfl
  obtain ⟨W0, hW0⟩ : ∃ W, W = w.alloc (.cells #[.slice none 0 0] 26) := ⟨_, rfl⟩
  rw [← hW0] at ha1 hr0
  have hs0 : W0.heap.size = w.heap.size + 1 := by rw [hW0]; simp
  have HB := Lib.hid (hb.below ha1 (Nat.le_refl _))
  have HW0 := Lib.hid hW0
  have C1 := Lib.hid (new_any a cap n W0 HB.out hn)
  have CB := Lib.hid (fun cb (N : Int) w hc (hN : N ≤ 2000000000) => below_any W0 a cap n cb N w hc hn hN)
  clear hW0 hb
  go_enter Try.func106, Try.ntmps106
  go_wp2_with fail
  rw [← HW0.out]
  refine C1.out.mono ?_; rintro e w1 ⟨cb, rfl, hc1⟩
  have hcbW := hc1.hcb
  have hr1 := one_below hr0 hc1.bel (Nat.le_refl _)
  have hcb1 := hc1.lt
  clear C1 hr0
  have CD := Lib.hid (l2Draw_any W0 a cap n cb 13 w1 hc1 hn (by omega) (by omega))
  go_wp2_with fail
  refine CD.out.mono ?_; rintro e w2 ⟨xs, ag, cg, rfl, hxs, og, hc2, g2⟩
  obtain ⟨p1, p2, p3, p4⟩ := grp_parts hxs
  have hr2 := one_grown hr1 g2 (by simp; omega)
  have hs1 := g2.size
  clear CD hr1 hc1
  -- the group's box
  have al := (Below.refl w2.heap.size w2).alloc (Nat.le_refl _) (.cells #[.slice ag xs.length cg] 26)
  have hb3 := new_at (w := w2) (n := w2.heap.size) (o := .cells #[.slice ag xs.length cg] 26) rfl
  have hr3 := one_below hr2 al (Nat.le_refl _)
  have og3 := og.below al (Nat.le_refl _)
  have hc3 := hc2.below al
  have hcb2 := hc2.lt
  obtain ⟨W3, hW3⟩ : ∃ W, W = w2.alloc (.cells #[.slice ag xs.length cg] 26) := ⟨_, rfl⟩
  rw [← hW3] at hb3 hr3 og3 hc3
  have hs3 : W3.heap.size = w2.heap.size + 1 := by rw [hW3]; simp
  -- the empty list
  have al4 := (Below.refl W3.heap.size W3).alloc (Nat.le_refl _) (.cells #[] 3)
  have hm := OwnI.made_at (w := W3) (B := W3.heap.size) (n := W3.heap.size) rfl (Nat.le_refl _)
  have hb4 := one_below hb3 al4 (Nat.le_refl _)
  have hr4 := one_below hr3 al4 (Nat.le_refl _)
  have og4 := og3.below al4 (Nat.le_refl _)
  have hc4 := hc3.below al4
  obtain ⟨W4, hW4⟩ : ∃ W, W = W3.alloc (.cells #[] 3) := ⟨_, rfl⟩
  rw [← hW4] at hm hb4 hr4 og4 hc4
  have G4 : W3.grownBy W4 (some cb) := by rw [hW4]; exact grown_of al4 _
  have HW3 := Lib.hid hW3
  have HW4 := Lib.hid hW4
  have HX := Lib.hid p1
  have HG := Lib.hid hxs
  have HO := Lib.hid (fun w h => l2Order_any ag cg xs w h hxs)
  have hwl : w.heap.size < w1.heap.size := by have := hc2.bel.size; have := hc2.hcb; omega
  have hbx1 : w2.heap.size < W3.heap.size ∧ cb < W3.heap.size ∧ w.heap.size < W3.heap.size ∧ cb ≠ w2.heap.size ∧ cb ≠ w.heap.size := by omega
  have haglt : ∀ x, ag = some x → x.block < W3.heap.size := fun x hx => (og3.lt x hx).2
  have HAG := Lib.hid haglt
  have h31 : w1.heap.size ≤ W3.heap.size := by omega
  have h03 : W0.heap.size ≤ W3.heap.size := by omega
  have d3 := cell_of_one hb3
  have e3 := free_of_one hb3
  have HS3 := Lib.hid hs3
  clear hs3 hW3 hW4 og hc2 hc3 hr2 hr3 p1 p2 hxs g2 al al4 hb3 og3 haglt
  have hg1 := p3
  have hg2 := p4
  obtain ⟨gl, hgl⟩ := Int.eq_ofNat_of_zero_le (show 0 ≤ gord xs by omega)
  rw [hgl] at HO hg1 hg2
  clear hgl p3 p4
  go_wp2_with fail
  rw [← HW3.out, ← HW4.out]
  go_loopw [6, 7] (fun vl vi wr => ∃ (i : Nat) (l : List Int) (al : Option Addr) (cl : Nat), 1 ≤ i ∧ i ≤ gl ∧ vi = .int .i64 (i : Int) ∧ vl = .slice al l.length cl ∧ l.length ≤ i ∧ OwnI wr W3.heap.size al cl l ∧ CW W0 a n cap cb wr ∧ wr.heap[w2.heap.size]? = some (.cells #[.slice ag xs.length cg] 26 (0, 0)) ∧ wr.heap[w.heap.size]? = some (.cells #[.slice none 0 0] 26 (0, 0)) ∧ OwnI wr w1.heap.size ag cg xs ∧ W3.heap.size ≤ wr.heap.size) (fun _ vi _ => (gl - intOf vi).toNat)
  case atStart => exact ⟨1, [], _, _, by omega, by omega, rfl, (by rw [HS3.out]; rfl), by simp, hm, hc4, hb4, hr4, og4, G4.size⟩
  case round =>
    clear hm hc4 hb4 hr4 og4 G4
    obtain ⟨i, l, al, cl, hi1, hig, rfl, rfl, hll, o5, hc5, hb5, hr5, og5, hs5⟩ := hrel
    have d5 := cell_of_one hb5
    by_cases hlt : i < gl
    · have hii : (i : Int) < gl := by omega
      go_wp2_with fail
      refine (HO.out _ og5.ints).mono ?_; rintro e w6 ⟨rfl, b6⟩
      have o6 := o5.below b6 (Nat.le_refl _)
      have hc6 := hc5.below b6
      have hb6 := one_below hb5 b6 (Nat.le_refl _)
      have hr6 := one_below hr5 b6 (Nat.le_refl _)
      have og6 := og5.below b6 (Nat.le_refl _)
      have hs6 : W3.heap.size ≤ w6.heap.size := by have := b6.size; omega
      clear o5 hc5 hb5 hr5 og5 d5 b6 hs5
      go_wp2_with fail
      refine (CB.out cb _ _ hc6 (by omega)).mono ?_; rintro e w7 ⟨x, rfl, hx, hc7, g7⟩
      have o7 := o6.cur g7 hbx1.2.1
      have hb7 := one_grown hb6 g7 (by simp; omega)
      have hr7 := one_grown hr6 g7 (by simp; omega)
      have og7 := og6.cur g7 hcb1
      have hs7 : W3.heap.size ≤ w7.heap.size := by have := g7.size; omega
      have hxw : (Lit.int .i64 (x : Int)).wf = true := wf_of (by omega) (by omega)
      have hl1 : l.length ≤ 2000000 := by omega
      clear o6 hc6 hb6 hr6 og6 g7 hs6 hx
      go_wp2_with (at_builtin; refine wpList_app rfl _ _ rfl W3.heap.size _ _ l (x : Int) rfl rfl o7 hxw hl1 hs7 ?_)
      intro a8 c8 w8 o8 hb8
      have hb8' := hb8 w7 (Below.refl _ _)
      have hc8 := hc7.belowB hb8' hbx1.2.1 h03
      have hb8b := (hb8'.block w2.heap.size hbx1.1).trans hb7
      have hr8 := (hb8'.block w.heap.size hbx1.2.2.1).trans hr7
      have og8 := og7.below' hb8' HAG.out
      have hs8 : W3.heap.size ≤ w8.heap.size := by have := hb8'.size; omega
      clear o7 hc7 hb7 hr7 og7 hb8 hb8' hs7
      go_wp2_with fail
      go_roundw
      case rel => exact ⟨i + 1, l ++ [(x : Int)], a8, c8, by omega, by omega, by go_num, by simp, by simp; omega, o8, hc8, hb8b, hr8, og8, hs8⟩
      case measure => simp [intOf]; omega
    · have hii : (gl : Int) ≤ i := by omega
      go_wp2_with fail
      refine (HO.out _ og5.ints).mono ?_; rintro e w6 ⟨rfl, b6⟩
      have o6 := o5.below b6 (Nat.le_refl _)
      have hc6 := hc5.below b6
      have hb6 := one_below hb5 b6 (Nat.le_refl _)
      have hr6 := one_below hr5 b6 (Nat.le_refl _)
      have og6 := og5.below b6 (Nat.le_refl _)
      have hs6 : W3.heap.size ≤ w6.heap.size := by have := b6.size; omega
      clear o5 hc5 hb5 hr5 og5 d5 b6 hs5
      have CN := Lib.hid (once_any W0 a cap n cb 4 w6 hc6 hn (by omega))
      go_wp2_with fail
      refine CN.out.mono ?_; rintro e w7 ⟨b, rfl, hc7, g7⟩
      have o7 := o6.cur g7 hbx1.2.1
      have hb7 := one_grown hb6 g7 (by simp; omega)
      have hr7 := one_grown hr6 g7 (by simp; omega)
      have og7 := og6.cur g7 hcb1
      have hs7 : W3.heap.size ≤ w7.heap.size := by have := g7.size; omega
      have B7 := ha1.trans (hc7.bel.mono (show w.heap.size ≤ W0.heap.size by omega))
      have q7 := cell_of_one hr7
      have f7 := free_of_one hr7
      have d7 := cell_of_one hb7
      clear o6 hc6 hb6 hr6 og6 CN g7
      cases b with
      | true =>
        have hwl7 : w.heap.size < w7.heap.size := by omega
        have hsW : (w7.setCell ⟨w.heap.size, 0, none⟩ (.slice (some ⟨w7.heap.size, 0, none⟩) 1 1)).heap.size = w7.heap.size := by simp [World.setCell]
        have hr8 : (w7.setCell ⟨w.heap.size, 0, none⟩ (.slice (some ⟨w7.heap.size, 0, none⟩) 1 1)).cell? ⟨w.heap.size, 0, none⟩ = some (.slice (some ⟨w7.heap.size, 0, none⟩) 1 1) := World.cell?_setCell_same (h := q7) ..
        have p8 : OwnI ((w7.setCell ⟨w.heap.size, 0, none⟩ (.slice (some ⟨w7.heap.size, 0, none⟩) 1 1)).alloc (.cells #[.int .i64 5] 3)) w7.heap.size (some ⟨w7.heap.size, 0, none⟩) 1 [5] := OwnI.one hsW.symm (Nat.le_refl _) (by decide)
        have al9 := (Below.refl ((w7.setCell ⟨w.heap.size, 0, none⟩ (.slice (some ⟨w7.heap.size, 0, none⟩) 1 1)).alloc (.cells #[.int .i64 5] 3)).heap.size ((w7.setCell ⟨w.heap.size, 0, none⟩ (.slice (some ⟨w7.heap.size, 0, none⟩) 1 1)).alloc (.cells #[.int .i64 5] 3))).alloc (Nat.le_refl _) (.cells #[.int .i64 0, .int .i64 1, .int .i64 1, .int .i64 0] 3)
        have r9 : OwnI (((w7.setCell ⟨w.heap.size, 0, none⟩ (.slice (some ⟨w7.heap.size, 0, none⟩) 1 1)).alloc (.cells #[.int .i64 5] 3)).alloc (.cells #[.int .i64 0, .int .i64 1, .int .i64 1, .int .i64 0] 3)) w7.heap.size (some ⟨w7.heap.size + 1, 0, none⟩) 4 [0, 1, 1, 0] := OwnI.litL (l := [0, 1, 1, 0]) (by simp [World.setCell]) (by omega) (by decide) (by simp)
        have B9 : Below w.heap.size w (((w7.setCell ⟨w.heap.size, 0, none⟩ (.slice (some ⟨w7.heap.size, 0, none⟩) 1 1)).alloc (.cells #[.int .i64 5] 3)).alloc (.cells #[.int .i64 0, .int .i64 1, .int .i64 1, .int .i64 0] 3)) := ((B7.setCell (Nat.le_refl _) _).alloc (by rw [hsW]; omega) _).alloc (by simp [World.setCell]; omega) _
        have HF : OwnI (((w7.setCell ⟨w.heap.size, 0, none⟩ (.slice (some ⟨w7.heap.size, 0, none⟩) 1 1)).alloc (.cells #[.int .i64 5] 3)).alloc (.cells #[.int .i64 0, .int .i64 1, .int .i64 1, .int .i64 0] 3)) w.heap.size (some ⟨w7.heap.size, 0, none⟩) 1 [5] ∧ OwnI (((w7.setCell ⟨w.heap.size, 0, none⟩ (.slice (some ⟨w7.heap.size, 0, none⟩) 1 1)).alloc (.cells #[.int .i64 5] 3)).alloc (.cells #[.int .i64 0, .int .i64 1, .int .i64 1, .int .i64 0] 3)) w.heap.size (some ⟨w7.heap.size + 1, 0, none⟩) 4 [0, 1, 1, 0] ∧ Below w.heap.size w (((w7.setCell ⟨w.heap.size, 0, none⟩ (.slice (some ⟨w7.heap.size, 0, none⟩) 1 1)).alloc (.cells #[.int .i64 5] 3)).alloc (.cells #[.int .i64 0, .int .i64 1, .int .i64 1, .int .i64 0] 3)) :=
          ⟨(p8.below al9 (Nat.le_refl _)).mono (by omega), r9.mono (by omega), B9⟩
        have HFH := Lib.hid HF
        have q9 : (((w7.setCell ⟨w.heap.size, 0, none⟩ (.slice (some ⟨w7.heap.size, 0, none⟩) 1 1)).alloc (.cells #[.int .i64 5] 3)).alloc (.cells #[.int .i64 0, .int .i64 1, .int .i64 1, .int .i64 0] 3)).cell? ⟨w.heap.size, 0, none⟩ = some (.slice (some ⟨w7.heap.size, 0, none⟩) 1 1) := by rw [World.cell?_alloc_past _ _ _ (by simp [World.setCell]; omega), World.cell?_alloc_past _ _ _ (by rw [hsW]; omega)]; exact hr8
        clear HF p8 r9 B9 al9 o7 hc7 og7 hs7 B7 hr8 hsW
        have Q9 := Lib.hid q9
        clear q9
        go_wp2_with fail
        exact bodyPost_ret (v := .tuple #[.agg #[.slice (some ⟨w7.heap.size, 0, none⟩) 1 1], .slice (some ⟨w7.heap.size + 1, 0, none⟩) 4 4]) (by simp [results, Try.results106, go_sem, Q9.out]) rfl ⟨[5], _, _, [0, 1, 1, 0], _, _, rfl, by simp, by simp, HFH.out⟩
      | false =>
        have HF : OwnI (w7.setCell ⟨w.heap.size, 0, none⟩ (.slice ag xs.length cg)) w.heap.size ag cg xs ∧ OwnI (w7.setCell ⟨w.heap.size, 0, none⟩ (.slice ag xs.length cg)) w.heap.size al cl l ∧ Below w.heap.size w (w7.setCell ⟨w.heap.size, 0, none⟩ (.slice ag xs.length cg)) :=
          ⟨OwnI.mono ⟨og7.1, ownsRow_setCell_below og7.2 hwl _⟩ (by omega), OwnI.mono ⟨o7.1, ownsRow_setCell_below o7.2 hbx1.2.2.1 _⟩ (by omega), B7.setCell (Nat.le_refl _) _⟩
        have HFH := Lib.hid HF
        have hxl := HX.out
        have hll2 : l.length ≤ 2000 := by omega
        clear HF o7 hc7 og7 hs7 B7
        go_wp2_with fail
        exact bodyPost_ret (v := .tuple #[.agg #[.slice ag xs.length cg], .slice al l.length cl]) (by simp [results, Try.results106, go_sem, q7]) rfl ⟨xs, _, _, l, _, _, rfl, by omega, by omega, HFH.out⟩
end Go.Proofs.Ytbidkjhgodkamaa
