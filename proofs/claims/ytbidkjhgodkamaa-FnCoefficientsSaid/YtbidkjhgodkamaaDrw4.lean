/-
Drawing a coloring, numbers of colors, a group with its coloring. Conditions: codes of at most 2000000 bytes.
-/
import Derived.Test.YtbidkjhgodkamaaDrw3
import Derived.Test.YtbidkjhgodkamaaLng2
namespace Go.Proofs.Ytbidkjhgodkamaa
open Go.RowKit Go.ChangeShapes
set_option linter.unusedVariables false

theorem CW.belowB {w0 : World} {a : Option Addr} {n cap cb B : Nat} {w w' : World} (h : CW w0 a n cap cb w) (hb : Below B w w') (hcb : cb < B) (hB : w0.heap.size ≤ B) : CW w0 a n cap cb w' := by
  obtain ⟨i, x, h1, h2, h3⟩ := h.cur
  exact ⟨h.bt, h.hcb, ⟨i, x, h1, h2, by rw [hb.block cb hcb]; exact h3⟩, h.bel.trans (hb.mono hB)⟩
theorem grown_belowB {w w1 w2 : World} {q : Option Nat} (h : w.grownBy w1 q) (k : Below w.heap.size w1 w2) : w.grownBy w2 q :=
  ⟨k.os.trans h.os, k.tape.trans h.tape, k.output.trans h.output, Nat.le_trans h.size k.size, fun i hi hne => (k.block i hi).trans (h.block i hi hne)⟩
theorem OwnI.cur {w w1 : World} {B cb : Nat} {al : Option Addr} {cl : Nat} {l : List Int} (h : OwnI w B al cl l) (g : w.grownBy w1 (some cb)) (hB : cb < B) : OwnI w1 B al cl l :=
  h.grown g (fun x hx e => by have := (h.lt x hx).1; simp at e; omega)

/-- What drawing a coloring leaves: colors and a number. -/
def GaveLC (w0 : World) (a : Option Addr) (n cap cb : Nat) (w : World) (e : Ending) (w' : World) : Prop :=
  ∃ (l : List Int) (al : Option Addr) (cl : Nat) (k : Int), e = .returned (.tuple #[.slice al l.length cl, .int .i64 k]) ∧ l.length ≤ 2000 ∧ (Lit.int .i64 k).wf = true ∧ OwnI w' w.heap.size al cl l ∧ CW w0 a n cap cb w' ∧ w.grownBy w' (some cb)
theorem lgL_len2 (k : Int) : (lgL k).length ≤ 1000 := by
  unfold lgL
  split
  · rename_i h
    obtain ⟨h1, h2⟩ := inB_true.1 h
    have : k = 1 ∨ k = 2 ∨ k = 3 := by omega
    rcases this with rfl | rfl | rfl <;> decide +kernel
  · simp

set_option maxRecDepth 20000 in
set_option maxHeartbeats 3200000 in
theorem l24Draw_any (w0 : World) (a : Option Addr) (cap n cb : Nat) (w : World) (hc : CW w0 a n cap cb w) (hn : n ≤ 2000000) :
    Calls Try.prog 271 #[.pointer (some ⟨cb, 0, none⟩)] w (GaveLC w0 a n cap cb w) := by
  have hcbl := hc.lt
  have hw0 := hc.bel.size
  have CB := Lib.hid (fun (N : Int) w hc (hN : N ≤ 2000000000) => below_any w0 a cap n cb N w hc hn hN)
  have CN := Lib.hid (fun (N : Int) w hc (hN : N ≤ 2000000000) => once_any w0 a cap n cb N w hc hn hN)
  go_enter Try.func271, Try.ntmps271
  go_wp2_with fail
  refine (CB.out _ _ hc (by omega)).mono ?_; rintro e w1 ⟨k, rfl, hk, hc1, g1⟩
  have hk3 : k < 3 := by omega
  have hs1 := g1.size
  have hcm := hc1.below ((Below.refl w1.heap.size w1).alloc (Nat.le_refl _) (.cells #[] 3))
  have hm := OwnI.made_at (w := w1) (B := w.heap.size) (n := w1.heap.size) rfl hs1
  have gm := grown_trans g1 (grown_of ((Below.refl w1.heap.size w1).alloc (Nat.le_refl _) (.cells #[] 3)) _)
  clear hk hc1 g1 hc
  go_wp2_with fail
  refine (CB.out _ _ hcm (by omega)).mono ?_; rintro e w2 ⟨m, rfl, hm9, hc2, g2⟩
  have o2 := hm.cur g2 hcbl
  have G2 := grown_trans gm g2
  have hm8 : m < 9 := by omega
  clear hm gm g2 hcm hm9
  go_wp2_with fail
  go_loopw [5, 6] (fun vl vi wr => ∃ (i : Nat) (l : List Int) (al : Option Addr) (cl : Nat), i ≤ 8 ∧ vi = .int .i64 (i : Int) ∧ vl = .slice al l.length cl ∧ l.length + i ≤ 8 ∧ OwnI wr w.heap.size al cl l ∧ CW w0 a n cap cb wr ∧ w.grownBy wr (some cb)) (fun _ vi _ => (intOf vi).toNat)
  case atStart => exact ⟨m, [], _, _, by omega, rfl, rfl, by simp; omega, o2, hc2, G2⟩
  case round =>
    clear o2 hc2 G2
    obtain ⟨i, l, al, cl, hi, rfl, rfl, hll, o3, hc3, G3⟩ := hrel
    by_cases hi0 : 0 < i
    · have hii : (0 : Int) < i := by omega
      have hki : IntKind.i64.wrap (1 + (k : Int)) = 1 + (k : Int) := by rw [IntKind.wrap_i64]; omega
      have CK := Lib.hid (CB.out (1 + (k : Int)) _ hc3 (by omega))
      go_wp2_with fail
      refine CK.out.mono ?_; rintro e w4 ⟨x, rfl, hx, hc4, g4⟩
      have hxw : (Lit.int .i64 (x : Int)).wf = true := wf_of (by omega) (by omega)
      have o4 := o3.cur g4 hcbl
      have G4 := grown_trans G3 g4
      have hs4 : w.heap.size ≤ w4.heap.size := G4.size
      have hl1 : l.length ≤ 2000000 := by omega
      clear o3 G3 hc3 CK g4 hx hki
      go_wp2_with (at_builtin; refine wpList_app rfl _ _ rfl w.heap.size _ _ l (x : Int) rfl rfl o4 hxw hl1 hs4 ?_)
      intro a5 c5 w5 o5 hb5
      have hb5' := hb5 w4 (Below.refl _ _)
      have hc5 := hc4.belowB hb5' hcbl hw0
      have G5 := grown_belowB G4 hb5'
      have hkk : (i : Int) - 1 = ((i - 1 : Nat) : Int) := by omega
      clear o4 G4 hc4 hb5 hb5' hs4
      go_wp2_with fail
      go_roundw
      case rel => exact ⟨i - 1, l ++ [(x : Int)], a5, c5, by omega, by first | rfl | rw [hkk], by simp, by simp; omega, o5, hc5, G5⟩
      case measure => simp [intOf]; omega
    · have hii : (i : Int) ≤ 0 := by omega
      go_wp2_with fail
      refine (CN.out _ _ hc3 (by omega)).mono ?_; rintro e w4 ⟨b, rfl, hc4, g4⟩
      have o4 := o3.cur g4 hcbl
      have G4 := grown_trans G3 g4
      have hl1 : l.length ≤ 1000 := by omega
      clear o3 hc3 G3 g4 hll hi hi0 hii
      cases b with
      | true =>
        go_wp2_with fail
        refine (lg_spec _ _).mono ?_; rintro e w5 ⟨a5, c5, rfl, o5, b5⟩
        have hc5 := hc4.below b5
        have G5 := grown_below G4 b5
        have hs5 : w.heap.size ≤ w5.heap.size := G5.size
        have o5' := o5.mono G4.size
        have hl5 := lgL_len2 (1 + (k : Int))
        obtain ⟨l5, hl5e⟩ : ∃ l, l = lgL (1 + (k : Int)) := ⟨_, rfl⟩
        rw [← hl5e] at hl5 o5' ⊢
        clear o5 o4 hc4 G4 b5 hl5e hl1
        go_wp2_with fail
        refine (CB.out _ _ hc5 (by omega)).mono ?_; rintro e w6 ⟨x, rfl, hx, hc6, g6⟩
        have o6 := o5'.cur g6 hcbl
        have G6 := grown_trans G5 g6
        clear g6 o5' hc5 G5 hs5
        have hs6 : w.heap.size ≤ w6.heap.size := G6.size
        have hcb6 : cb < w6.heap.size := by omega
        by_cases hx0 : x = 0
        · subst hx0
          have al5 := (Below.refl w6.heap.size w6).alloc (Nat.le_refl _) (.cells #[.int .i64 0, .int .i64 5, .int .i64 (-1), .int .i64 4, .int .i64 (-9223372036854775808)] 3)
          have CP := pick_any w0 a cap n cb (some ⟨w6.heap.size, 0, none⟩) 5 [0, 5, -1, 4, -9223372036854775808] (w6.alloc (.cells #[.int .i64 0, .int .i64 5, .int .i64 (-1), .int .i64 4, .int .i64 (-9223372036854775808)] 3)) (hc6.below al5) hn (Ints.litL rfl _ (by decide) (by simp)) (fun y hy => by cases hy; simp; omega) (by simp) (by simp)
          simp only [List.length_cons, List.length_nil, Nat.zero_add, Nat.reduceAdd] at CP
          have CPH := Lib.hid CP
          have G7 := grown_trans G6 (grown_of al5 _)
          have o7 := o6.below al5 (Nat.le_refl _)
          clear CP o6 hc6 G6 al5 hx
          go_wp2_with fail
          refine CPH.out.mono ?_; rintro e w8 ⟨z, rfl, hz, hc8, g8⟩
          have hzw : (Lit.int .i64 z).wf = true := by
            simp only [List.mem_cons, List.not_mem_nil, or_false] at hz
            rcases hz with rfl | rfl | rfl | rfl | rfl <;> decide
          have o8 := o7.cur g8 hcbl
          have G8 := grown_trans G7 g8
          clear hz o7 G7 g8 CPH
          go_wp2_with fail
          go_ret2
          exact ⟨l5, _, _, _, rfl, by omega, hzw, o8, hc8, G8⟩
        by_cases hx1 : x = 1
        · subst hx1
          have hl6 : l5.length ≤ 2000000 := by omega
          clear hx hx0
          go_wp2_with (at_builtin; refine wpList_app rfl _ _ rfl w.heap.size _ _ l5 (-1) rfl rfl o6 (by decide) hl6 hs6 ?_)
          intro a7 c7 w7 o7 hb7
          have hb7' := hb7 w6 (Below.refl _ _)
          have hc7 := hc6.belowB hb7' hcbl hw0
          have G7 := grown_belowB G6 hb7'
          clear o6 hc6 G6 hb7 hb7'
          go_wp2_with fail
          go_ret2
          exact ⟨l5 ++ [-1], _, _, 1 + (k : Int), by simp, by simp; omega, wf_of (by omega) (by omega), o7, hc7, G7⟩
        have t0 : ((x : Int) == 0) = false := by rw [beq_eq_false_iff_ne]; omega
        have t1 : ((x : Int) == 1) = false := by rw [beq_eq_false_iff_ne]; omega
        clear hx hx0 hx1
        go_wp2_with fail
        go_ret2
        exact ⟨l5, _, _, 1 + (k : Int), rfl, by omega, wf_of (by omega) (by omega), o6, hc6, G6⟩
      | false =>
        go_wp2_with fail
        refine (CB.out _ _ hc4 (by omega)).mono ?_; rintro e w6 ⟨x, rfl, hx, hc6, g6⟩
        have o6 := o4.cur g6 hcbl
        have G6 := grown_trans G4 g6
        clear g6 o4 hc4 G4
        have hs6 : w.heap.size ≤ w6.heap.size := G6.size
        have hcb6 : cb < w6.heap.size := by omega
        by_cases hx0 : x = 0
        · subst hx0
          have al5 := (Below.refl w6.heap.size w6).alloc (Nat.le_refl _) (.cells #[.int .i64 0, .int .i64 5, .int .i64 (-1), .int .i64 4, .int .i64 (-9223372036854775808)] 3)
          have CP := pick_any w0 a cap n cb (some ⟨w6.heap.size, 0, none⟩) 5 [0, 5, -1, 4, -9223372036854775808] (w6.alloc (.cells #[.int .i64 0, .int .i64 5, .int .i64 (-1), .int .i64 4, .int .i64 (-9223372036854775808)] 3)) (hc6.below al5) hn (Ints.litL rfl _ (by decide) (by simp)) (fun y hy => by cases hy; simp; omega) (by simp) (by simp)
          simp only [List.length_cons, List.length_nil, Nat.zero_add, Nat.reduceAdd] at CP
          have CPH := Lib.hid CP
          have G7 := grown_trans G6 (grown_of al5 _)
          have o7 := o6.below al5 (Nat.le_refl _)
          clear CP o6 hc6 G6 al5 hx
          go_wp2_with fail
          refine CPH.out.mono ?_; rintro e w8 ⟨z, rfl, hz, hc8, g8⟩
          have hzw : (Lit.int .i64 z).wf = true := by
            simp only [List.mem_cons, List.not_mem_nil, or_false] at hz
            rcases hz with rfl | rfl | rfl | rfl | rfl <;> decide
          have o8 := o7.cur g8 hcbl
          have G8 := grown_trans G7 g8
          clear hz o7 G7 g8 CPH
          go_wp2_with fail
          go_ret2
          exact ⟨l, _, _, _, rfl, by omega, hzw, o8, hc8, G8⟩
        by_cases hx1 : x = 1
        · subst hx1
          have hl6 : l.length ≤ 2000000 := by omega
          clear hx hx0
          go_wp2_with (at_builtin; refine wpList_app rfl _ _ rfl w.heap.size _ _ l (-1) rfl rfl o6 (by decide) hl6 hs6 ?_)
          intro a7 c7 w7 o7 hb7
          have hb7' := hb7 w6 (Below.refl _ _)
          have hc7 := hc6.belowB hb7' hcbl hw0
          have G7 := grown_belowB G6 hb7'
          clear o6 hc6 G6 hb7 hb7'
          go_wp2_with fail
          go_ret2
          exact ⟨l ++ [-1], _, _, 1 + (k : Int), by simp, by simp; omega, wf_of (by omega) (by omega), o7, hc7, G7⟩
        have t0 : ((x : Int) == 0) = false := by rw [beq_eq_false_iff_ne]; omega
        have t1 : ((x : Int) == 1) = false := by rw [beq_eq_false_iff_ne]; omega
        clear hx hx0 hx1
        go_wp2_with fail
        go_ret2
        exact ⟨l, _, _, 1 + (k : Int), rfl, by omega, wf_of (by omega) (by omega), o6, hc6, G6⟩
end Go.Proofs.Ytbidkjhgodkamaa
