/-
Drawing any group, an element, a set. Conditions: codes of at most 2000000 bytes.
-/
import Derived.Test.YtokpgbpdmfibjaaDrw2
import Derived.Test.YtokpgbpdmfibjaaOrs
import Derived.WalkLawsBesides
namespace Go.Proofs.Ytokpgbpdmfibjaa
open Go.RowKit Go.ChangeShapes
set_option linter.unusedVariables false

theorem Ints.litL {w : World} {g : Nat} (hg : g = w.heap.size) (l : List Int) (hw : ∀ x ∈ l, (Lit.int .i64 x).wf = true) (hl : l.length ≤ 1000) : Ints (w.alloc (.cells (l.map (Value.int .i64)).toArray 3)) (some ⟨g, 0, none⟩) l.length l := by
  subst hg
  exact Ints.of_block (heap_alloc_new _ _) hw hl
theorem OwnI.litL {w : World} {B g : Nat} (hg : g = w.heap.size) (hB : B ≤ g) (l : List Int) (hw : ∀ x ∈ l, (Lit.int .i64 x).wf = true) (hl : l.length ≤ 1000) : OwnI (w.alloc (.cells (l.map (Value.int .i64)).toArray 3)) B (some ⟨g, 0, none⟩) l.length l := by
  subst hg
  exact ⟨hw, by simp, .inr ⟨w.heap.size, l.length, _, rfl, hB, heap_alloc_new w _, by simp, by unfold maxLen; omega, by simp, by rw [List.take_of_length_le (by simp)]⟩⟩
/-- Any group's orders, of at most four numbers. -/
def Any4 (xs : List Int) : Prop := xs.length ≤ 4
set_option maxRecDepth 100000 in
set_option maxHeartbeats 6400000 in
theorem l2Any_any (w0 : World) (a : Option Addr) (cap n cb : Nat) (w : World) (hc : CW w0 a n cap cb w) (hn : n ≤ 2000000) :
    Calls Try.prog 126 #[.pointer (some ⟨cb, 0, none⟩)] w (GaveC Any4 w0 a n cap cb w) := by
  have hcbl := hc.lt
  have hw0 := hc.bel.size
  have ha1 := (Below.refl w.heap.size w).alloc (Nat.le_refl _) (.cells #[.slice none 0 0] 26)
  have CD := Lib.hid (l2Draw_any w0 a cap n cb 24 _ (hc.below ha1) hn (by omega) (by omega))
  have hr0 := new_at (w := w) (n := w.heap.size) (o := .cells #[.slice none 0 0] 26) rfl
  have G0 : w.grownBy (w.alloc (.cells #[.slice none 0 0] 26)) (some cb) := grown_of ha1 _
  go_enter Try.func126, Try.ntmps126
  go_wp2_with fail
  refine CD.out.mono ?_; rintro e w2 ⟨xs, ag, cg, rfl, hxs, og, hc2, g2⟩
  have hxl := (grp_parts hxs).1
  have hr2 := one_grown hr0 g2 (by simp; omega)
  have G2 := grown_trans G0 g2
  have hs2 : w.heap.size + 1 ≤ w2.heap.size := by have := g2.size; simpa using this
  -- the group's box
  have al := (Below.refl w2.heap.size w2).alloc (Nat.le_refl _) (.cells #[.slice ag xs.length cg] 26)
  have hc3 := hc2.below al
  have hr3 := one_below hr2 al (Nat.le_refl _)
  have hb3 := new_at (w := w2) (n := w2.heap.size) (o := .cells #[.slice ag xs.length cg] 26) rfl
  have og3 := og.below al (Nat.le_refl _)
  have G3 := grown_trans G2 (grown_of al _)
  obtain ⟨W3, hW3⟩ : ∃ W, W = w2.alloc (.cells #[.slice ag xs.length cg] 26) := ⟨_, rfl⟩
  rw [← hW3] at hc3 hr3 hb3 og3 G3
  have hs3 : w2.heap.size + 1 = W3.heap.size := by rw [hW3]; simp
  have hs3' : w2.heap.size + 1 ≤ W3.heap.size := by omega
  have HW3 := Lib.hid hW3
  have CB := Lib.hid (below_any w0 a cap n cb 16 W3 hc3 hn (by omega))
  have HXL := Lib.hid hxl
  clear CD hr0 ha1 al hr2 hc2 g2 G0 G2 og hxs hW3 hc hs3
  go_wp2_with fail
  rw [← HW3.out]
  refine CB.out.mono ?_; rintro e w4 ⟨x, rfl, hx, hc4, g4⟩
  have hr4 := one_grown hr3 g4 (by simp; omega)
  have hcb2 : cb < w2.heap.size := by omega
  have hb4 := one_grown hb3 g4 (by simp; omega)
  have og4 := og3.grown g4 (fun y hy e => by
    have h1 := (og3.lt y hy).1
    have h2 : cb = y.block := by simpa using e
    simp at h1; omega)
  have G4 := grown_trans G3 g4
  have hs4 : w.heap.size + 2 ≤ w4.heap.size := by have := g4.size; omega
  have q0 := cell_of_one hr4
  have f0 := free_of_one hr4
  have qb := cell_of_one hb4
  have HR4 := Lib.hid hr4
  clear CB hr3 hb3 og3 hc3 g4 G3 hb4 hr4
  by_cases hx0 : x = 0
  · subst hx0
    have al5 := (Below.refl w4.heap.size w4).alloc (Nat.le_refl _) (.cells #[.int .i64 0, .int .i64 1, .int .i64 (-1), .int .i64 25, .int .i64 9223372036854775807] 3)
    have CP := pick_any w0 a cap n cb (some ⟨w4.heap.size, 0, none⟩) 5 [0, 1, -1, 25, 9223372036854775807] (w4.alloc (.cells #[.int .i64 0, .int .i64 1, .int .i64 (-1), .int .i64 25, .int .i64 9223372036854775807] 3)) (hc4.below al5) hn (Ints.litL rfl _ (by decide) (by simp)) (fun y hy => by cases hy; simp; omega) (by simp) (by simp)
    simp only [List.length_cons, List.length_nil, Nat.zero_add, Nat.reduceAdd] at CP
    have CPH := Lib.hid CP
    have G5 := grown_trans G4 (grown_of al5 _)
    have hr5 := one_below HR4.out al5 (Nat.le_refl _)
    clear CP qb og4 hx
    go_wp2_with fail
    refine CPH.out.mono ?_; rintro e w6 ⟨z, rfl, hz, hc6, g6⟩
    have hr6 := one_grown hr5 g6 (by simp; omega)
    have G6 := grown_trans G5 g6
    have hs6 : w.heap.size + 2 ≤ w6.heap.size := by have := g6.size; simp at this; omega
    have hzw : (Lit.int .i64 z).wf = true := by
      simp only [List.mem_cons, List.not_mem_nil, or_false] at hz
      rcases hz with rfl | rfl | rfl | rfl | rfl <;> decide
    clear hz g6 CPH q0 f0 al5 G5 hr5
    have al := (Below.refl w6.heap.size w6).alloc (Nat.le_refl _) (.cells #[.int .i64 z] 3)
    have ho : OwnI (w6.alloc (.cells #[.int .i64 z] 3)) w6.heap.size (some ⟨w6.heap.size, 0, none⟩) 1 [z] := OwnI.one rfl (Nat.le_refl _) hzw
    have hF := fin_g (hc6.below al) (grown_trans G6 (grown_of al _)) hcbl hw0 ho (by omega) (.slice (some ⟨w6.heap.size, 0, none⟩) 1 1)
    have HF := Lib.hid hF
    have q1 := (al.cell (p := ⟨w.heap.size, 0, none⟩) (by show w.heap.size < w6.heap.size; omega)).trans (cell_of_one hr6)
    have f1 := (al.frozen (p := ⟨w.heap.size, 0, none⟩) (by show w.heap.size < w6.heap.size; omega)).trans (free_of_one hr6)
    clear ho hF
    go_wp2_with fail
    exact bodyPost_ret (v := .agg #[.slice (some ⟨w6.heap.size, 0, none⟩) 1 1]) (by simp [results, Try.results126, go_sem, q1]) rfl ⟨[z], _, _, rfl, by unfold Any4; simp, HF.out⟩
  by_cases hx1 : x = 1
  · subst hx1
    clear qb og4 hx hx0
    have hr6 := HR4.out
    have al := (Below.refl w4.heap.size w4).alloc (Nat.le_refl _) (.cells #[.int .i64 2, .int .i64 2, .int .i64 2, .int .i64 2] 3)
    have ho : OwnI (w4.alloc (.cells #[.int .i64 2, .int .i64 2, .int .i64 2, .int .i64 2] 3)) w4.heap.size (some ⟨w4.heap.size, 0, none⟩) 4 [2, 2, 2, 2] := OwnI.litL (l := [2, 2, 2, 2]) rfl (Nat.le_refl _) (by decide) (by simp)
    have hF := fin_g (hc4.below al) (grown_trans G4 (grown_of al _)) hcbl hw0 ho (by omega) (.slice (some ⟨w4.heap.size, 0, none⟩) 4 4)
    have HF := Lib.hid hF
    have q1 := (al.cell (p := ⟨w.heap.size, 0, none⟩) (by show w.heap.size < w4.heap.size; omega)).trans (cell_of_one hr6)
    have f1 := (al.frozen (p := ⟨w.heap.size, 0, none⟩) (by show w.heap.size < w4.heap.size; omega)).trans (free_of_one hr6)
    clear ho hF
    go_wp2_with fail
    exact bodyPost_ret (v := .agg #[.slice (some ⟨w4.heap.size, 0, none⟩) 4 4]) (by simp [results, Try.results126, go_sem, q1]) rfl ⟨[2, 2, 2, 2], _, _, rfl, by unfold Any4; simp, HF.out⟩
  by_cases hx2 : x = 2
  · subst hx2
    clear qb og4 hx hx0 hx1
    have hr6 := HR4.out
    have al := (Below.refl w4.heap.size w4).alloc (Nat.le_refl _) (.cells #[.int .i64 5, .int .i64 5] 3)
    have ho : OwnI (w4.alloc (.cells #[.int .i64 5, .int .i64 5] 3)) w4.heap.size (some ⟨w4.heap.size, 0, none⟩) 2 [5, 5] := OwnI.litL (l := [5, 5]) rfl (Nat.le_refl _) (by decide) (by simp)
    have hF := fin_g (hc4.below al) (grown_trans G4 (grown_of al _)) hcbl hw0 ho (by omega) (.slice (some ⟨w4.heap.size, 0, none⟩) 2 2)
    have HF := Lib.hid hF
    have q1 := (al.cell (p := ⟨w.heap.size, 0, none⟩) (by show w.heap.size < w4.heap.size; omega)).trans (cell_of_one hr6)
    have f1 := (al.frozen (p := ⟨w.heap.size, 0, none⟩) (by show w.heap.size < w4.heap.size; omega)).trans (free_of_one hr6)
    clear ho hF
    go_wp2_with fail
    exact bodyPost_ret (v := .agg #[.slice (some ⟨w4.heap.size, 0, none⟩) 2 2]) (by simp [results, Try.results126, go_sem, q1]) rfl ⟨[5, 5], _, _, rfl, by unfold Any4; simp, HF.out⟩
  have t0 : ((x : Int) == 0) = false := by rw [beq_eq_false_iff_ne]; omega
  have t1 : ((x : Int) == 1) = false := by rw [beq_eq_false_iff_ne]; omega
  have t2 : ((x : Int) == 2) = false := by rw [beq_eq_false_iff_ne]; omega
  have hF := fin_g hc4 G4 hcbl hw0 og4 (by simp) (.slice ag xs.length cg)
  have HF := Lib.hid hF
  clear hF og4 hx hx0 hx1 hx2
  go_wp2_with fail
  exact bodyPost_ret (v := .agg #[.slice ag xs.length cg]) (by simp [results, Try.results126, go_sem, q0]) rfl ⟨xs, _, _, rfl, (by have := HXL.out; unfold Any4; omega), HF.out⟩

theorem ordV_bd (os : List Int) : 0 ≤ ordV os ∧ ordV os ≤ 24 := by
  unfold ordV
  split
  · rename_i h
    obtain ⟨_, _, h3, h4⟩ := grp_parts h
    omega
  · omega
set_option maxRecDepth 20000 in
set_option maxHeartbeats 3200000 in
theorem l2Element_any (w0 : World) (a : Option Addr) (cap n cb : Nat) (ag : Option Addr) (cg : Nat) (xs : List Int) (w : World) (hc : CW w0 a n cap cb w) (hn : n ≤ 2000000) (h0 : Ints w ag cg xs) (hne : ∀ y, ag = some y → y.block ≠ cb) (hl : xs.length ≤ 2000000) :
    Calls Try.prog 98 #[.pointer (some ⟨cb, 0, none⟩), .agg #[.slice ag xs.length cg]] w fun e w' => ∃ x : Int, e = .returned (.int .i64 x) ∧ (Lit.int .i64 x).wf = true ∧ CW w0 a n cap cb w' ∧ w.grownBy w' (some cb) := by
  have hcbl := hc.lt
  have al := (Below.refl w.heap.size w).alloc (Nat.le_refl _) (.cells #[.slice ag xs.length cg] 26)
  have CO := Lib.hid (once_any w0 a cap n cb 16 _ (hc.below al) hn (by omega))
  have hb := new_at (w := w) (n := w.heap.size) (o := .cells #[.slice ag xs.length cg] 26) rfl
  have h1 := h0.below al (Nat.le_refl _)
  have G0 := grown_of al (some cb)
  have HN := Lib.hid hne
  have CR := Lib.hid (fun w h => orderOf_spec ag cg xs w h hl)
  obtain ⟨o1, o2⟩ := ordV_bd xs
  obtain ⟨o, ho⟩ : ∃ o, o = ordV xs := ⟨_, rfl⟩
  rw [← ho] at CR o1 o2
  clear ho h0 hne al hc
  go_enter Try.func98, Try.ntmps98
  go_wp2_with fail
  refine CO.out.mono ?_; rintro e w1 ⟨b, rfl, hc1, g1⟩
  have hb1 := one_grown hb g1 (by simp; omega)
  have h2 := h1.grown g1 (fun y hy e => HN.out y hy (by simpa using e.symm))
  have G1 := grown_trans G0 g1
  have q1 := cell_of_one hb1
  have hs1 : w.heap.size + 1 ≤ w1.heap.size := by have := g1.size; simpa using this
  clear CO hb h1 G0 g1
  cases b with
  | true =>
    have al5 := (Below.refl w1.heap.size w1).alloc (Nat.le_refl _) (.cells #[.int .i64 (-1), .int .i64 24, .int .i64 9223372036854775807] 3)
    have CP := pick_any w0 a cap n cb (some ⟨w1.heap.size, 0, none⟩) 3 [-1, 24, 9223372036854775807] (w1.alloc (.cells #[.int .i64 (-1), .int .i64 24, .int .i64 9223372036854775807] 3)) (hc1.below al5) hn (Ints.litL rfl _ (by decide) (by simp)) (fun y hy => by cases hy; simp; omega) (by simp) (by simp)
    simp only [List.length_cons, List.length_nil, Nat.zero_add, Nat.reduceAdd] at CP
    have CPH := Lib.hid CP
    have G5 := grown_trans G1 (grown_of al5 _)
    clear CP
    go_wp2_with fail
    refine CPH.out.mono ?_; rintro e w6 ⟨z, rfl, hz, hc6, g6⟩
    have hzw : (Lit.int .i64 z).wf = true := by
      simp only [List.mem_cons, List.not_mem_nil, or_false] at hz
      rcases hz with rfl | rfl | rfl <;> decide
    clear hz CPH
    go_wp2_with fail
    go_ret
    exact ⟨z, rfl, hzw, hc6, grown_trans G5 g6⟩
  | false =>
    go_wp2_with fail
    refine (CR.out _ h2).mono ?_; rintro e w6 ⟨rfl, b6⟩
    have hc6 := hc1.below b6
    have G6 := grown_trans G1 (grown_of b6 _)
    have hcase : (o < 1) ∨ (o = 1) ∨ (1 < o) := by omega
    have CB := Lib.hid (fun (N : Int) (hN : N ≤ 2000000000) => below_any w0 a cap n cb N w6 hc6 hn hN)
    have C1 := Lib.hid (CB.out 1 (by omega))
    have C2 := Lib.hid (CB.out o (by omega))
    clear CR h2 q1 b6 CB
    rcases hcase with hm | rfl | hm
    · go_wp2_with fail
      refine C1.out.mono ?_; rintro e w7 ⟨x, rfl, hx, hc7, g7⟩
      go_wp2_with fail
      go_ret
      exact ⟨x, rfl, wf_of (by omega) (by omega), hc7, grown_trans G6 g7⟩
    · go_wp2_with fail
      refine C1.out.mono ?_; rintro e w7 ⟨x, rfl, hx, hc7, g7⟩
      go_wp2_with fail
      go_ret
      exact ⟨x, rfl, wf_of (by omega) (by omega), hc7, grown_trans G6 g7⟩
    · go_wp2_with fail
      refine C2.out.mono ?_; rintro e w7 ⟨x, rfl, hx, hc7, g7⟩
      go_wp2_with fail
      go_ret
      exact ⟨x, rfl, wf_of (by omega) (by omega), hc7, grown_trans G6 g7⟩

set_option maxRecDepth 20000 in
set_option maxHeartbeats 3200000 in
theorem l3Set_any (w0 : World) (a : Option Addr) (cap n cb : Nat) (ag : Option Addr) (cg : Nat) (xs : List Int) (w : World) (hc : CW w0 a n cap cb w) (hn : n ≤ 2000000) (h0 : Ints w ag cg xs) (hl : xs.length ≤ 2000000) :
    Calls Try.prog 95 #[.pointer (some ⟨cb, 0, none⟩), .agg #[.slice ag xs.length cg]] w fun e w' => ∃ x : Int, e = .returned (.int .i64 x) ∧ (Lit.int .i64 x).wf = true ∧ CW w0 a n cap cb w' ∧ w.grownBy w' (some cb) := by
  have hcbl := hc.lt
  have al := (Below.refl w.heap.size w).alloc (Nat.le_refl _) (.cells #[.slice ag xs.length cg] 26)
  have h1 := h0.below al (Nat.le_refl _)
  have hc1 := hc.below al
  have G0 := grown_of al (some cb)
  have CR := Lib.hid (fun w h => orderOf_spec ag cg xs w h hl)
  obtain ⟨o1, o2⟩ := ordV_bd xs
  obtain ⟨o, ho⟩ : ∃ o, o = ordV xs := ⟨_, rfl⟩
  rw [← ho] at CR o1 o2
  have hcase : (o < 1) ∨ (o = 1) ∨ (1 < o) := by omega
  have CB := Lib.hid (fun (N : Int) w hc (hN : N ≤ 2000000000) => below_any w0 a cap n cb N w hc hn hN)
  clear ho h0 al hc
  go_enter Try.func95, Try.ntmps95
  go_wp2_with fail
  refine (CR.out _ h1).mono ?_; rintro e w2 ⟨rfl, b2⟩
  have hc2 := hc1.below b2
  have G2 := grown_trans G0 (grown_of b2 _)
  clear hc1 G0 b2 h1 CR
  rcases hcase with hm | rfl | hm
  · go_wp2_with fail
    refine (CB.out _ _ hc2 (by omega)).mono ?_; rintro e w3 ⟨k0, rfl, hk0, hc3, g3⟩
    have G3 := grown_trans G2 g3
    have hk6 : k0 ≤ 6 := by omega
    clear hc2 G2 g3 hk0
    go_wp2_with fail
    go_loopw [6, 7] (fun va vk wr => ∃ (s k : Nat), s < 16777216 ∧ k ≤ 6 ∧ va = .int .i64 (s : Int) ∧ vk = .int .i64 (k : Int) ∧ CW w0 a n cap cb wr ∧ w.grownBy wr (some cb)) (fun _ vk _ => (intOf vk).toNat)
    case atStart => exact ⟨0, k0, by omega, by omega, rfl, rfl, hc3, G3⟩
    case round =>
      clear hc3 G3
      obtain ⟨s, k, hs, hk, rfl, rfl, hc4, G4⟩ := hrel
      by_cases hk0 : 0 < k
      · have hk0i : (0 : Int) < k := by omega
        have hkk : (k : Int) - 1 = ((k - 1 : Nat) : Int) := by omega
        go_wp2_with fail
        refine (CB.out _ _ hc4 (by omega)).mono ?_; rintro e w5 ⟨x, rfl, hx, hc5, g5⟩
        have G5 := grown_trans G4 g5
        have hx24 : x < 24 := by omega
        obtain ⟨T, hT, hTl, hw, hor⟩ := or_one s x hs hx24
        have hs2 : s ||| T < 16777216 := by
          rw [hT]
          have : s ||| 2 ^ x < 2 ^ 24 := Nat.or_lt_two_pow (by simpa using hs) (Nat.pow_lt_pow_right (by decide) hx24)
          simpa using this
        obtain ⟨S2, hS2⟩ : ∃ t, t = s ||| T := ⟨_, rfl⟩
        rw [← hS2] at hor hs2
        clear hT hS2 hx g5 G4 hc4
        go_wp2_with fail
        go_roundw
        case rel => exact ⟨S2, k - 1, hs2, by omega, by first | rfl | go_num, by first | rfl | rw [hkk], hc5, G5⟩
        case measure => simp [intOf]; omega
      · have hkz : (k : Int) ≤ 0 := by omega
        go_wp2_with fail
        refine (CB.out _ _ hc4 (by omega)).mono ?_; rintro e w5 ⟨x, rfl, hx, hc5, g5⟩
        have G5 := grown_trans G4 g5
        have hcb5 : cb < w5.heap.size := hc5.lt
        clear g5 G4 hc4 hkz hk0
        by_cases hx0 : x = 0
        · subst hx0
          clear hx
          go_wp2_with fail
          go_ret
          exact ⟨_, rfl, by decide, hc5, G5⟩
        by_cases hx1 : x = 1
        · subst hx1
          have al5 := (Below.refl w5.heap.size w5).alloc (Nat.le_refl _) (.cells #[.int .i64 (-1), .int .i64 16777216, .int .i64 9223372036854775807] 3)
          have CP := pick_any w0 a cap n cb (some ⟨w5.heap.size, 0, none⟩) 3 [-1, 16777216, 9223372036854775807] (w5.alloc (.cells #[.int .i64 (-1), .int .i64 16777216, .int .i64 9223372036854775807] 3)) (hc5.below al5) hn (Ints.litL rfl _ (by decide) (by simp)) (fun y hy => by cases hy; simp; omega) (by simp) (by simp)
          simp only [List.length_cons, List.length_nil, Nat.zero_add, Nat.reduceAdd] at CP
          have CPH := Lib.hid CP
          have G6 := grown_trans G5 (grown_of al5 _)
          clear CP hx
          go_wp2_with fail
          refine CPH.out.mono ?_; rintro e w6 ⟨z, rfl, hz, hc6, g6⟩
          have hzw : (Lit.int .i64 z).wf = true := by
            simp only [List.mem_cons, List.not_mem_nil, or_false] at hz
            rcases hz with rfl | rfl | rfl <;> decide
          clear hz CPH
          go_wp2_with fail
          go_ret
          exact ⟨z, rfl, hzw, hc6, grown_trans G6 g6⟩
        have t0 : ((x : Int) == 0) = false := by rw [beq_eq_false_iff_ne]; omega
        have t1 : ((x : Int) == 1) = false := by rw [beq_eq_false_iff_ne]; omega
        clear hx hx0 hx1
        go_wp2_with fail
        go_ret
        exact ⟨s, rfl, wf_of (by omega) (by omega), hc5, G5⟩
  · go_wp2_with fail
    refine (CB.out _ _ hc2 (by omega)).mono ?_; rintro e w3 ⟨k0, rfl, hk0, hc3, g3⟩
    have G3 := grown_trans G2 g3
    have hk6 : k0 ≤ 6 := by omega
    clear hc2 G2 g3 hk0
    go_wp2_with fail
    go_loopw [6, 7] (fun va vk wr => ∃ (s k : Nat), s < 16777216 ∧ k ≤ 6 ∧ va = .int .i64 (s : Int) ∧ vk = .int .i64 (k : Int) ∧ CW w0 a n cap cb wr ∧ w.grownBy wr (some cb)) (fun _ vk _ => (intOf vk).toNat)
    case atStart => exact ⟨0, k0, by omega, by omega, rfl, rfl, hc3, G3⟩
    case round =>
      clear hc3 G3
      obtain ⟨s, k, hs, hk, rfl, rfl, hc4, G4⟩ := hrel
      by_cases hk0 : 0 < k
      · have hk0i : (0 : Int) < k := by omega
        have hkk : (k : Int) - 1 = ((k - 1 : Nat) : Int) := by omega
        go_wp2_with fail
        refine (CB.out _ _ hc4 (by omega)).mono ?_; rintro e w5 ⟨x, rfl, hx, hc5, g5⟩
        have G5 := grown_trans G4 g5
        have hx24 : x < 24 := by omega
        obtain ⟨T, hT, hTl, hw, hor⟩ := or_one s x hs hx24
        have hs2 : s ||| T < 16777216 := by
          rw [hT]
          have : s ||| 2 ^ x < 2 ^ 24 := Nat.or_lt_two_pow (by simpa using hs) (Nat.pow_lt_pow_right (by decide) hx24)
          simpa using this
        obtain ⟨S2, hS2⟩ : ∃ t, t = s ||| T := ⟨_, rfl⟩
        rw [← hS2] at hor hs2
        clear hT hS2 hx g5 G4 hc4
        go_wp2_with fail
        go_roundw
        case rel => exact ⟨S2, k - 1, hs2, by omega, by first | rfl | go_num, by first | rfl | rw [hkk], hc5, G5⟩
        case measure => simp [intOf]; omega
      · have hkz : (k : Int) ≤ 0 := by omega
        go_wp2_with fail
        refine (CB.out _ _ hc4 (by omega)).mono ?_; rintro e w5 ⟨x, rfl, hx, hc5, g5⟩
        have G5 := grown_trans G4 g5
        have hcb5 : cb < w5.heap.size := hc5.lt
        clear g5 G4 hc4 hkz hk0
        by_cases hx0 : x = 0
        · subst hx0
          clear hx
          go_wp2_with fail
          go_ret
          exact ⟨_, rfl, by decide, hc5, G5⟩
        by_cases hx1 : x = 1
        · subst hx1
          have al5 := (Below.refl w5.heap.size w5).alloc (Nat.le_refl _) (.cells #[.int .i64 (-1), .int .i64 16777216, .int .i64 9223372036854775807] 3)
          have CP := pick_any w0 a cap n cb (some ⟨w5.heap.size, 0, none⟩) 3 [-1, 16777216, 9223372036854775807] (w5.alloc (.cells #[.int .i64 (-1), .int .i64 16777216, .int .i64 9223372036854775807] 3)) (hc5.below al5) hn (Ints.litL rfl _ (by decide) (by simp)) (fun y hy => by cases hy; simp; omega) (by simp) (by simp)
          simp only [List.length_cons, List.length_nil, Nat.zero_add, Nat.reduceAdd] at CP
          have CPH := Lib.hid CP
          have G6 := grown_trans G5 (grown_of al5 _)
          clear CP hx
          go_wp2_with fail
          refine CPH.out.mono ?_; rintro e w6 ⟨z, rfl, hz, hc6, g6⟩
          have hzw : (Lit.int .i64 z).wf = true := by
            simp only [List.mem_cons, List.not_mem_nil, or_false] at hz
            rcases hz with rfl | rfl | rfl <;> decide
          clear hz CPH
          go_wp2_with fail
          go_ret
          exact ⟨z, rfl, hzw, hc6, grown_trans G6 g6⟩
        have t0 : ((x : Int) == 0) = false := by rw [beq_eq_false_iff_ne]; omega
        have t1 : ((x : Int) == 1) = false := by rw [beq_eq_false_iff_ne]; omega
        clear hx hx0 hx1
        go_wp2_with fail
        go_ret
        exact ⟨s, rfl, wf_of (by omega) (by omega), hc5, G5⟩
  · obtain ⟨m, rfl⟩ := Int.eq_ofNat_of_zero_le o1
    have hm1 : 1 ≤ m ∧ m ≤ 24 := by omega
    go_wp2_with fail
    refine (CB.out _ _ hc2 (by omega)).mono ?_; rintro e w3 ⟨k0, rfl, hk0, hc3, g3⟩
    have G3 := grown_trans G2 g3
    have hk6 : k0 ≤ 6 := by omega
    clear hc2 G2 g3 hk0
    go_wp2_with fail
    go_loopw [6, 7] (fun va vk wr => ∃ (s k : Nat), s < 16777216 ∧ k ≤ 6 ∧ va = .int .i64 (s : Int) ∧ vk = .int .i64 (k : Int) ∧ CW w0 a n cap cb wr ∧ w.grownBy wr (some cb)) (fun _ vk _ => (intOf vk).toNat)
    case atStart => exact ⟨0, k0, by omega, by omega, rfl, rfl, hc3, G3⟩
    case round =>
      clear hc3 G3
      obtain ⟨s, k, hs, hk, rfl, rfl, hc4, G4⟩ := hrel
      by_cases hk0 : 0 < k
      · have hk0i : (0 : Int) < k := by omega
        have hkk : (k : Int) - 1 = ((k - 1 : Nat) : Int) := by omega
        go_wp2_with fail
        refine (CB.out _ _ hc4 (by omega)).mono ?_; rintro e w5 ⟨x, rfl, hx, hc5, g5⟩
        have G5 := grown_trans G4 g5
        have hx24 : x < 24 := by omega
        obtain ⟨T, hT, hTl, hw, hor⟩ := or_one s x hs hx24
        have hs2 : s ||| T < 16777216 := by
          rw [hT]
          have : s ||| 2 ^ x < 2 ^ 24 := Nat.or_lt_two_pow (by simpa using hs) (Nat.pow_lt_pow_right (by decide) hx24)
          simpa using this
        obtain ⟨S2, hS2⟩ : ∃ t, t = s ||| T := ⟨_, rfl⟩
        rw [← hS2] at hor hs2
        clear hT hS2 hx g5 G4 hc4
        go_wp2_with fail
        go_roundw
        case rel => exact ⟨S2, k - 1, hs2, by omega, by first | rfl | go_num, by first | rfl | rw [hkk], hc5, G5⟩
        case measure => simp [intOf]; omega
      · have hkz : (k : Int) ≤ 0 := by omega
        go_wp2_with fail
        refine (CB.out _ _ hc4 (by omega)).mono ?_; rintro e w5 ⟨x, rfl, hx, hc5, g5⟩
        have G5 := grown_trans G4 g5
        have hcb5 : cb < w5.heap.size := hc5.lt
        clear g5 G4 hc4 hkz hk0
        by_cases hx0 : x = 0
        · subst hx0
          obtain ⟨T, hT⟩ : ∃ T : Nat, T = 2 ^ m := ⟨_, rfl⟩
          have hTb : T ≤ 16777216 := by
            rw [hT]
            have := Nat.pow_le_pow_right (n := 2) (by decide) hm1.2
            simpa using this
          have hTp : 1 ≤ T := by rw [hT]; exact Nat.two_pow_pos m
          have hw : IntKind.i64.wrap (2 ^ m) = (T : Int) := by rw [pow_wrap62 m (by omega), hT]; simp
          clear hT hx
          go_wp2_with fail
          go_ret
          exact ⟨_, rfl, wf_of (by omega) (by omega), hc5, G5⟩
        by_cases hx1 : x = 1
        · subst hx1
          have al5 := (Below.refl w5.heap.size w5).alloc (Nat.le_refl _) (.cells #[.int .i64 (-1), .int .i64 16777216, .int .i64 9223372036854775807] 3)
          have CP := pick_any w0 a cap n cb (some ⟨w5.heap.size, 0, none⟩) 3 [-1, 16777216, 9223372036854775807] (w5.alloc (.cells #[.int .i64 (-1), .int .i64 16777216, .int .i64 9223372036854775807] 3)) (hc5.below al5) hn (Ints.litL rfl _ (by decide) (by simp)) (fun y hy => by cases hy; simp; omega) (by simp) (by simp)
          simp only [List.length_cons, List.length_nil, Nat.zero_add, Nat.reduceAdd] at CP
          have CPH := Lib.hid CP
          have G6 := grown_trans G5 (grown_of al5 _)
          clear CP hx
          go_wp2_with fail
          refine CPH.out.mono ?_; rintro e w6 ⟨z, rfl, hz, hc6, g6⟩
          have hzw : (Lit.int .i64 z).wf = true := by
            simp only [List.mem_cons, List.not_mem_nil, or_false] at hz
            rcases hz with rfl | rfl | rfl <;> decide
          clear hz CPH
          go_wp2_with fail
          go_ret
          exact ⟨z, rfl, hzw, hc6, grown_trans G6 g6⟩
        have t0 : ((x : Int) == 0) = false := by rw [beq_eq_false_iff_ne]; omega
        have t1 : ((x : Int) == 1) = false := by rw [beq_eq_false_iff_ne]; omega
        clear hx hx0 hx1
        go_wp2_with fail
        go_ret
        exact ⟨s, rfl, wf_of (by omega) (by omega), hc5, G5⟩
end Go.Proofs.Ytokpgbpdmfibjaa
