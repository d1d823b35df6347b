/-
The draws of FnRado: an equation, a bound, a coloring. Conditions: codes of at most 2000000 bytes.
-/
import Derived.Test.YtokpgbpdmfibjaaDrw4
namespace Go.Proofs.Ytokpgbpdmfibjaa
open Go.RowKit Go.ChangeShapes
set_option linter.unusedVariables false
set_option linter.unusedSimpArgs false

set_option maxRecDepth 20000 in
set_option maxHeartbeats 3200000 in
theorem l25Draw_any (w0 : World) (a : Option Addr) (cap n cb : Nat) (w : World) (hc : CW w0 a n cap cb w) (hn : n ≤ 2000000) :
    Calls Try.prog 107 #[.pointer (some ⟨cb, 0, none⟩)] w fun e w' => ∃ (l : List Int) (al : Option Addr) (cl : Nat), e = .returned (.slice al l.length cl) ∧ l.length ≤ 3 ∧ OwnI w' w.heap.size al cl l ∧ CW w0 a n cap cb w' ∧ w.grownBy w' (some cb) := by
  have hcbl := hc.lt
  have hw0 := hc.bel.size
  have CB := Lib.hid (fun (N : Int) w hc (hN : N ≤ 2000000000) => below_any w0 a cap n cb N w hc hn hN)
  have CN := Lib.hid (fun (N : Int) w hc (hN : N ≤ 2000000000) => once_any w0 a cap n cb N w hc hn hN)
  have hs0 : w.heap.size ≤ w.heap.size := Nat.le_refl _
  have al0 := (Below.refl w.heap.size w).alloc (Nat.le_refl _) (.cells #[] 3)
  have hcm := hc.below al0
  have hm := OwnI.made_at (w := w) (B := w.heap.size) (n := w.heap.size) rfl hs0
  have gm := grown_of al0 (some cb)
  clear hc al0
  go_enter Try.func107, Try.ntmps107
  go_wp2_with fail
  refine (CB.out _ _ hcm (by omega)).mono ?_; rintro e w2 ⟨m, rfl, hm2, hc2, g2⟩
  have o2 := hm.cur g2 hcbl
  have G2 := grown_trans gm g2
  have hm3 : m < 2 := by omega
  have hwm : IntKind.i64.wrap (2 + (m : Int)) = ((2 + m : Nat) : Int) := by rw [IntKind.wrap_i64]; omega
  clear hm gm g2 hcm hm2
  go_wp2_with fail
  go_loopw [3, 4] (fun vl vi wr => ∃ (i : Nat) (l : List Int) (al : Option Addr) (cl : Nat), i ≤ 3 ∧ vi = .int .i64 (i : Int) ∧ vl = .slice al l.length cl ∧ l.length + i ≤ 3 ∧ 1 ≤ l.length + i ∧ OwnI wr w.heap.size al cl l ∧ CW w0 a n cap cb wr ∧ w.grownBy wr (some cb)) (fun _ vi _ => (intOf vi).toNat)
  case atStart => exact ⟨2 + m, [], _, _, by omega, by first | rfl | (congr 1; omega), rfl, by simp; omega, by simp; omega, o2, hc2, G2⟩
  case round =>
    clear o2 hc2 G2
    obtain ⟨i, l, al, cl, hi, rfl, rfl, hll, hl1, o3, hc3, G3⟩ := hrel
    have hcb3 := hc3.lt
    by_cases hi0 : 0 < i
    · have hii : (0 : Int) < i := by omega
      have al5 := (Below.refl wr.heap.size wr).alloc (Nat.le_refl _) (.cells #[.int .i64 1, .int .i64 1, .int .i64 (-1), .int .i64 2, .int .i64 (-2), .int .i64 3, .int .i64 (-3)] 3)
      have CP := pick_any w0 a cap n cb (some ⟨wr.heap.size, 0, none⟩) 7 [1, 1, -1, 2, -2, 3, -3] (wr.alloc (.cells #[.int .i64 1, .int .i64 1, .int .i64 (-1), .int .i64 2, .int .i64 (-2), .int .i64 3, .int .i64 (-3)] 3)) (hc3.below al5) hn (Ints.litL rfl _ (by decide) (by simp)) (fun y hy => by cases hy; simp; omega) (by simp) (by simp)
      simp only [List.length_cons, List.length_nil, Nat.zero_add, Nat.reduceAdd] at CP
      have CPH := Lib.hid CP
      have G4 := grown_trans G3 (grown_of al5 _)
      have o4 := o3.below al5 (Nat.le_refl _)
      clear CP o3 hc3 G3 al5
      go_wp2_with fail
      refine CPH.out.mono ?_; rintro e w4 ⟨z, rfl, hz, hc5, g5⟩
      have hzw : (Lit.int .i64 z).wf = true := by
        simp only [List.mem_cons, List.not_mem_nil, or_false] at hz
        rcases hz with rfl | rfl | rfl | rfl | rfl | rfl | rfl <;> decide
      have o5 := o4.cur g5 hcbl
      have G5 := grown_trans G4 g5
      have hs5 : w.heap.size ≤ w4.heap.size := G5.size
      have hl2 : l.length ≤ 2000000 := by omega
      clear hz o4 G4 g5 CPH
      go_wp2_with (at_builtin; refine wpList_app rfl _ _ rfl w.heap.size _ _ l z rfl rfl o5 hzw hl2 hs5 ?_)
      intro a5 c5 w5 o6 hb5
      have hb5' := hb5 w4 (Below.refl _ _)
      have hc6 := hc5.belowB hb5' hcbl hw0
      have G6 := grown_belowB G5 hb5'
      have hkk : (i : Int) - 1 = ((i - 1 : Nat) : Int) := by omega
      clear o5 G5 hc5 hb5 hb5' hs5 hzw
      go_wp2_with fail
      go_roundw
      case rel => exact ⟨i - 1, l ++ [z], a5, c5, by omega, by first | rfl | rw [hkk], by simp, by simp; omega, by simp; omega, o6, hc6, G6⟩
      case measure => simp [intOf]; omega
    · have hii : (i : Int) ≤ 0 := by omega
      have hl0 : 0 < l.length := by omega
      obtain ⟨g, rfl, hgB, hgl⟩ := o3.addr hl0
      have hl0i : (0 : Int) < l.length := by omega
      have hl3 : l.length ≤ 3 := by omega
      clear hll hl1 hi hi0
      go_wp2_with fail
      refine (CN.out _ _ hc3 (by omega)).mono ?_; rintro e w4 ⟨b, rfl, hc4, g4⟩
      have o4 := o3.cur g4 hcbl
      have G4 := grown_trans G3 g4
      have hcb4 := hc4.lt
      clear o3 hc3 G3 g4
      cases b with
      | true =>
        have al5 := (Below.refl w4.heap.size w4).alloc (Nat.le_refl _) (.cells #[.int .i64 0, .int .i64 10, .int .i64 (-9223372036854775808)] 3)
        have CP := pick_any w0 a cap n cb (some ⟨w4.heap.size, 0, none⟩) 3 [0, 10, -9223372036854775808] (w4.alloc (.cells #[.int .i64 0, .int .i64 10, .int .i64 (-9223372036854775808)] 3)) (hc4.below al5) hn (Ints.litL rfl _ (by decide) (by simp)) (fun y hy => by cases hy; simp; omega) (by simp) (by simp)
        simp only [List.length_cons, List.length_nil, Nat.zero_add, Nat.reduceAdd] at CP
        have CPH := Lib.hid CP
        have G5 := grown_trans G4 (grown_of al5 _)
        have o5 := o4.below al5 (Nat.le_refl _)
        clear CP o4 hc4 al5 G4
        go_wp2_with fail
        refine CPH.out.mono ?_; rintro e w8 ⟨z, rfl, hz, hc8, g8⟩
        have hzw : (Lit.int .i64 z).wf = true := by
          simp only [List.mem_cons, List.not_mem_nil, or_false] at hz
          rcases hz with rfl | rfl | rfl <;> decide
        have o8 := o5.cur g8 hcbl
        have G8 := grown_trans G5 g8
        have o9 := Lib.hid (o8.set 0 z hzw)
        have q8 := o8.cell 0 hl0
        have f8 := o8.frozen 0
        have bs := (Below.refl w.heap.size w8).setCell (p := ⟨g, 0, none⟩) hgB (.int .i64 z)
        have hc9 := Lib.hid (hc8.belowB bs hcbl hw0)
        have G9 := Lib.hid (grown_belowB G8 bs)
        clear hz o5 G5 g8 CPH o8 hc8 G8 bs
        go_wp2_with fail
        go_ret
        exact ⟨l.set 0 z, _, _, by simp, by simp; omega, o9.out, hc9.out, G9.out⟩
      | false =>
        go_wp2_with fail
        go_ret
        exact ⟨l, _, _, rfl, hl3, o4, hc4, G4⟩
set_option maxHeartbeats 1600000 in
theorem dSolutions_any (a : Option Addr) (cap n : Nat) (w : World) (hb : BtS w a cap n) (hn : n ≤ 2000000) :
    Calls Try.prog 34 #[.slice a n cap] w fun e w' => ∃ (l : List Int) (al : Option Addr) (cl : Nat) (x : Int), e = .returned (.tuple #[.slice al l.length cl, .int .i64 x]) ∧ l.length ≤ 3 ∧ -1 ≤ x ∧ x ≤ 9 ∧ OwnI w' w.heap.size al cl l ∧ Below w.heap.size w w' := by
  have C1 := Lib.hid (new_any a cap n w hb hn)
  go_enter Try.func34, Try.ntmps34
  go_wp2_with fail
  refine C1.out.mono ?_; rintro e w1 ⟨cb, rfl, hc1⟩
  have hcbl := hc1.lt
  have hs1 := hc1.bel.size
  go_wp2_with fail
  refine (l25Draw_any w a cap n cb w1 hc1 hn).mono ?_; rintro e w2 ⟨l, al, cl, rfl, hl, o2, hc2, g2⟩
  go_wp2_with fail
  refine (below_any w a cap n cb 11 w2 hc2 hn (by omega)).mono ?_; rintro e w3 ⟨x, rfl, hx, hc3, g3⟩
  have hw : IntKind.i64.wrap ((x : Int) - 1) = (x : Int) - 1 := by rw [IntKind.wrap_i64]; omega
  have o3 := o2.cur g3 hcbl
  go_wp2_with fail
  go_ret2
  exact ⟨l, _, _, _, rfl, hl, by omega, by omega, o3.mono hs1, hc3.bel⟩
set_option maxHeartbeats 1600000 in
theorem dRadoN_any (a : Option Addr) (cap n : Nat) (w : World) (hb : BtS w a cap n) (hn : n ≤ 2000000) :
    Calls Try.prog 45 #[.slice a n cap] w fun e w' => ∃ (l : List Int) (al : Option Addr) (cl : Nat) (x : Int), e = .returned (.tuple #[.slice al l.length cl, .int .i64 x]) ∧ l.length ≤ 3 ∧ 0 ≤ x ∧ x ≤ 3 ∧ OwnI w' w.heap.size al cl l ∧ Below w.heap.size w w' := by
  have C1 := Lib.hid (new_any a cap n w hb hn)
  go_enter Try.func45, Try.ntmps45
  go_wp2_with fail
  refine C1.out.mono ?_; rintro e w1 ⟨cb, rfl, hc1⟩
  have hcbl := hc1.lt
  have hs1 := hc1.bel.size
  go_wp2_with fail
  refine (l25Draw_any w a cap n cb w1 hc1 hn).mono ?_; rintro e w2 ⟨l, al, cl, rfl, hl, o2, hc2, g2⟩
  go_wp2_with fail
  refine (below_any w a cap n cb 4 w2 hc2 hn (by omega)).mono ?_; rintro e w3 ⟨x, rfl, hx, hc3, g3⟩
  have o3 := o2.cur g3 hcbl
  go_wp2_with fail
  go_ret2
  exact ⟨l, _, _, _, rfl, hl, by omega, by omega, o3.mono hs1, hc3.bel⟩
set_option maxHeartbeats 1600000 in
theorem dDigit_any (a : Option Addr) (cap n : Nat) (w : World) (hb : BtS w a cap n) (hn : n ≤ 2000000) :
    Calls Try.prog 46 #[.slice a n cap] w fun e w' => ∃ (p x : Int), e = .returned (.tuple #[.int .i64 p, .int .i64 x]) ∧ 0 ≤ p ∧ p ≤ 8 ∧ -1 ≤ x ∧ x ≤ 41 ∧ Below w.heap.size w w' := by
  have C1 := Lib.hid (new_any a cap n w hb hn)
  go_enter Try.func46, Try.ntmps46
  go_wp2_with fail
  refine C1.out.mono ?_; rintro e w1 ⟨cb, rfl, hc1⟩
  go_wp2_with fail
  refine (below_any w a cap n cb 9 w1 hc1 hn (by omega)).mono ?_; rintro e w2 ⟨p, rfl, hp, hc2, g2⟩
  go_wp2_with fail
  refine (below_any w a cap n cb 43 w2 hc2 hn (by omega)).mono ?_; rintro e w3 ⟨x, rfl, hx, hc3, g3⟩
  have hw : IntKind.i64.wrap ((x : Int) - 1) = (x : Int) - 1 := by rw [IntKind.wrap_i64]; omega
  go_wp2_with fail
  go_ret2
  exact ⟨_, _, rfl, by omega, by omega, by omega, by omega, hc3.bel⟩
set_option maxRecDepth 20000 in
set_option maxHeartbeats 3200000 in
theorem dMono_any (a : Option Addr) (cap n : Nat) (w : World) (hb : BtS w a cap n) (hn : n ≤ 2000000) :
    Calls Try.prog 43 #[.slice a n cap] w fun e w' => ∃ (l x : List Int) (al ax : Option Addr) (cl cx : Nat), e = .returned (.tuple #[.slice al l.length cl, .slice ax x.length cx]) ∧ l.length ≤ 3 ∧ x.length ≤ 10 ∧ OwnI w' w.heap.size al cl l ∧ OwnI w' w.heap.size ax cx x ∧ Below w.heap.size w w' := by
  have C1 := Lib.hid (new_any a cap n w hb hn)
  have CB := Lib.hid (fun cb (N : Int) w' hc (hN : N ≤ 2000000000) => below_any w a cap n cb N w' hc hn hN)
  go_enter Try.func43, Try.ntmps43
  go_wp2_with fail
  refine C1.out.mono ?_; rintro e w1 ⟨cb, rfl, hc1⟩
  have hcbl := hc1.lt
  have hs1 := hc1.bel.size
  have CL := Lib.hid (l25Draw_any w a cap n cb w1 hc1 hn)
  clear C1 hc1
  go_wp2_with fail
  refine CL.out.mono ?_; rintro e w2 ⟨l, al, cl, rfl, hl, o2, hc2, g2⟩
  have hcb2 := hc2.lt
  have hw2 := hc2.bel.size
  have al0 := (Below.refl w2.heap.size w2).alloc (Nat.le_refl _) (.cells #[] 3)
  have hcm := hc2.below al0
  have hm := OwnI.made_at (w := w2) (B := w2.heap.size) (n := w2.heap.size) rfl (Nat.le_refl _)
  have om := o2.below al0 (Nat.le_refl _)
  have hs2 : w2.heap.size ≤ (w2.alloc (.cells #[] 3)).heap.size := by simp
  clear CL hc2 g2 al0
  go_wp2_with fail
  refine (CB.out cb _ _ hcm (by omega)).mono ?_; rintro e w3 ⟨m, rfl, hm11, hc3, g3⟩
  have x3 := hm.cur g3 hcb2
  have o3 := om.cur g3 hcbl
  have hs3 := Nat.le_trans hs2 g3.size
  have hm10 : m < 11 := by omega
  have HLT := Lib.hid o2.lt
  clear hm om hcm g3 hm11 hs2 o2
  go_wp2_with fail
  go_loopw [6, 7] (fun vx vi wr => ∃ (i : Nat) (x : List Int) (ax : Option Addr) (cx : Nat), i ≤ 10 ∧ vi = .int .i64 (i : Int) ∧ vx = .slice ax x.length cx ∧ x.length + i ≤ 10 ∧ OwnI wr w2.heap.size ax cx x ∧ OwnI wr w1.heap.size al cl l ∧ CW w a n cap cb wr ∧ w2.heap.size ≤ wr.heap.size) (fun _ vi _ => (intOf vi).toNat)
  case atStart => exact ⟨m, [], _, _, by omega, rfl, rfl, by simp; omega, x3, o3, hc3, hs3⟩
  case round =>
    clear x3 o3 hc3 hs3
    obtain ⟨i, x, ax, cx, hi, rfl, rfl, hxx, x4, o4, hc4, hs4⟩ := hrel
    by_cases hi0 : 0 < i
    · have hii : (0 : Int) < i := by omega
      go_wp2_with fail
      refine (CB.out cb _ _ hc4 (by omega)).mono ?_; rintro e w5 ⟨y, rfl, hy, hc5, g5⟩
      have x5 := x4.cur g5 hcb2
      have o5 := o4.cur g5 hcbl
      have hs5 := Nat.le_trans hs4 g5.size
      have hyw : (Lit.int .i64 (y : Int)).wf = true := wf_of (by omega) (by omega)
      have hl1 : x.length ≤ 2000000 := by omega
      clear x4 o4 hc4 g5 hs4 hy
      go_wp2_with (at_builtin; refine wpList_app rfl _ _ rfl w2.heap.size _ _ x (y : Int) rfl rfl x5 hyw hl1 hs5 ?_)
      intro a6 c6 w6 x6 hb6
      have hb6' := hb6 w5 (Below.refl _ _)
      have hc6 := hc5.belowB hb6' hcb2 (Nat.le_trans hw2 (Nat.le_refl _))
      have o6 := o5.below' hb6' (fun y hy => (HLT.out y hy).2)
      have hs6 := Nat.le_trans hs5 hb6'.size
      have hkk : (i : Int) - 1 = ((i - 1 : Nat) : Int) := by omega
      clear x5 o5 hc5 hb6 hb6' hs5 hyw
      go_wp2_with fail
      go_roundw
      case rel => exact ⟨i - 1, x ++ [(y : Int)], a6, c6, by omega, by first | rfl | rw [hkk], by simp, by simp; omega, x6, o6, hc6, hs6⟩
      case measure => simp [intOf]; omega
    · have hii : (i : Int) ≤ 0 := by omega
      go_wp2_with fail
      go_ret2
      exact ⟨l, x, _, _, _, _, rfl, hl, by omega, o4.mono hs1, x4.mono hw2, hc4.bel⟩
end Go.Proofs.Ytokpgbpdmfibjaa
