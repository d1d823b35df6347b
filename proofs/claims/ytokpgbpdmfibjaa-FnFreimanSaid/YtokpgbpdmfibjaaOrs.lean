/-
Contracts of sets that are made element by element: negatives and shifts. Conditions: sets of a group.
-/
import Derived.Test.YtokpgbpdmfibjaaNeg
import Derived.Test.YtokpgbpdmfibjaaSet
namespace Go.Proofs.Ytokpgbpdmfibjaa
open Go.RowKit Go.ChangeShapes

/-- The set of the images of a list. -/
def orL (f : Nat → Nat) (l : List Int) : Nat := l.foldl (fun s y => s ||| 2 ^ f y.toNat) 0
theorem orL_snoc (f : Nat → Nat) (l : List Int) (y : Int) : orL f (l ++ [y]) = orL f l ||| 2 ^ f y.toNat := by simp [orL, List.foldl_append]
theorem orL_take {f : Nat → Nat} {l : List Int} {k : Nat} (h : k < l.length) : orL f (l.take (k + 1)) = orL f (l.take k) ||| 2 ^ f l[k].toNat := by
  rw [take_snoc' l k h, orL_snoc]
theorem foldl_or_bit (f : Nat → Nat) (i : Nat) : ∀ (l : List Int) (s : Nat), (l.foldl (fun s y => s ||| 2 ^ f y.toNat) s).testBit i = (s.testBit i || l.any fun y => f y.toNat == i)
  | [], s => by simp
  | y :: l, s => by
    rw [List.foldl_cons, foldl_or_bit f i l, Nat.testBit_or, Nat.testBit_two_pow, List.any_cons, Bool.or_assoc]
    congr 2
theorem orL_bit (f : Nat → Nat) (l : List Int) (i : Nat) : (orL f l).testBit i = l.any fun y => f y.toNat == i := by
  unfold orL; rw [foldl_or_bit]; simp
theorem orL_lt {f : Nat → Nat} {m : Nat} (hf : ∀ y, f y < m) (l : List Int) : orL f l < 2 ^ m := by
  unfold orL
  have : ∀ (l : List Int) (s : Nat), s < 2 ^ m → l.foldl (fun s y => s ||| 2 ^ f y.toNat) s < 2 ^ m := by
    intro l
    induction l with
    | nil => intro s h; exact h
    | cons y l ih =>
      intro s h
      exact ih _ (Nat.or_lt_two_pow h (Nat.pow_lt_pow_right (by decide) (hf _)))
  exact this l 0 (Nat.two_pow_pos m)
theorem gadd_lt : ∀ {os : List Int} (_ : ordsIn os = true) (x y : Nat), (gadd os x y : Int) < gord os
  | [], _, x, y => by simp [gadd, gord]
  | o :: os, h, x, y => by
    have h' : inB o 2 24 = true ∧ ordsIn os = true := by simpa [ordsIn] using h
    obtain ⟨h1, h2⟩ := inB_true.1 h'.1
    obtain ⟨n, rfl⟩ := Int.eq_ofNat_of_zero_le (show 0 ≤ o by omega)
    have ih := gadd_lt h'.2 (x / n) (y / n)
    simp only [gadd, gord, Int.toNat_natCast]
    have hm : (x % n + y % n) % n < n := Nat.mod_lt _ (by omega)
    generalize (x % n + y % n) % n = d at *
    generalize gadd os (x / n) (y / n) = q at *
    have : (n : Int) * (q + 1) ≤ n * gord os := Int.mul_le_mul_of_nonneg_left (by omega) (by omega)
    rw [Int.mul_add] at this
    push_cast
    omega
theorem gneg_lt : ∀ {os : List Int} (_ : ordsIn os = true) (x : Nat), (gneg os x : Int) < gord os
  | [], _, x => by simp [gneg, gord]
  | o :: os, h, x => by
    have h' : inB o 2 24 = true ∧ ordsIn os = true := by simpa [ordsIn] using h
    obtain ⟨h1, h2⟩ := inB_true.1 h'.1
    obtain ⟨n, rfl⟩ := Int.eq_ofNat_of_zero_le (show 0 ≤ o by omega)
    have ih := gneg_lt h'.2 (x / n)
    simp only [gneg, gord, Int.toNat_natCast]
    have hm : (n - x % n) % n < n := Nat.mod_lt _ (by omega)
    generalize (n - x % n) % n = d at *
    generalize gneg os (x / n) = q at *
    have : (n : Int) * (q + 1) ≤ n * gord os := Int.mul_le_mul_of_nonneg_left (by omega) (by omega)
    rw [Int.mul_add] at this
    push_cast
    omega
theorem gadd_comm : ∀ (os : List Int) (x y : Nat), gadd os x y = gadd os y x
  | [], _, _ => rfl
  | o :: os, x, y => by simp only [gadd]; rw [Nat.add_comm (x % _), gadd_comm os]
theorem gadd_lt24 {os : List Int} (h : grpB os = true) (x y : Nat) : gadd os x y < 24 := by
  obtain ⟨g1, g2, g3, g4⟩ := grp_parts h
  have := gadd_lt g2 x y
  omega
theorem gneg_lt24 {os : List Int} (h : grpB os = true) (x : Nat) : gneg os x < 24 := by
  obtain ⟨g1, g2, g3, g4⟩ := grp_parts h
  have := gneg_lt g2 x
  omega
/-- One more element, as the walk meets it. -/
theorem or_one (s z : Nat) (hs : s < 16777216) (hz : z < 24) : ∃ T : Nat, T = 2 ^ z ∧ T ≤ 16777216 ∧ IntKind.i64.wrap (2 ^ z) = (T : Int) ∧ bits .or .i64 (s : Int) (T : Int) = ((s ||| T : Nat) : Int) := by
  have h2 : (2 : Nat) ^ z ≤ 16777216 := by
    have := Nat.pow_le_pow_right (n := 2) (by decide) (show z ≤ 24 by omega)
    simpa using this
  refine ⟨2 ^ z, rfl, h2, ?_, or_nat _ _ (by omega) (by omega)⟩
  rw [pow_wrap62 z (by omega)]
  simp

theorem l2Add_rev (a0 : Option Addr) (c0 : Nat) (os : List Int) (y x : Nat) (w : World) (h0 : Ints w a0 c0 os) (hg0 : grpB os = true) (hy : y ≤ 1000000) (hx : x ≤ 1000000) :
    Calls Try.prog 102 #[.agg #[.slice a0 os.length c0], .int .i64 y, .int .i64 x] w fun e w' => e = .returned (.int .i64 (gadd os x y)) ∧ Below w.heap.size w w' := by
  rw [gadd_comm os x y]; exact l2Add_any a0 c0 os y x w h0 hg0 hy hx

set_option maxHeartbeats 1600000 in
theorem l3Shift_any (a0 : Option Addr) (c0 : Nat) (os : List Int) (a x : Nat) (w : World) (h0 : Ints w a0 c0 os) (hg0 : grpB os = true) (ha : a < 1099511627776) (hx : x ≤ 1000000) :
    Calls Try.prog 94 #[.agg #[.slice a0 os.length c0], .int .i64 a, .int .i64 x] w fun e w' => e = .returned (.int .i64 (orL (gadd os x) (mems a))) ∧ Below w.heap.size w w' := by
  have hb0 := (Below.refl w.heap.size w).alloc (Nat.le_refl _) (.cells #[.slice a0 os.length c0] 26)
  have h1 := h0.below hb0 (Nat.le_refl _)
  have CN := Lib.hid (fun y w h hy => l2Add_rev a0 c0 os y x w h hg0 hy hx)
  have CL := Lib.hid (l3List_any a ha)
  have HF := Lib.hid (fun y => gadd_lt24 hg0 x y)
  have HM := Lib.hid (fun x (hx : x ∈ mems a) => mems_bd hx)
  have hlen := mems_len a
  obtain ⟨l, hl⟩ : ∃ l, l = mems a := ⟨_, rfl⟩
  rw [← hl] at CL HM hlen ⊢
  clear hl hg0
  go_enter Try.func94, Try.ntmps94
  go_wp2_with fail
  refine (CL.out _).mono ?_; rintro e w1 ⟨a1, c1, rfl, o1, b1⟩
  have hbox := box_cell b1 (by simp)
  have h2 := h1.below b1 (Nat.le_refl _)
  have B1 := nx hb0 b1
  have z1 : w.heap.size < w1.heap.size := by have := b1.size; simp at this; omega
  obtain ⟨-, -, -, -, hcs⟩ := o1.ints
  have HCS := Lib.hid hcs
  clear hcs b1 hb0 h1 h0
  go_wp2_with fail
  go_loopw [7, 9] (fun vs vi wr => ∃ (k s : Nat), k ≤ l.length ∧ vi = .int .i64 k ∧ vs = .int .i64 s ∧ Hid (s = orL (gadd os x) (l.take k)) ∧ Below w1.heap.size w1 wr) (fun _ i _ => l.length - (intOf i).toNat)
  case atStart => exact ⟨0, 0, by omega, rfl, rfl, Lib.hid (by simp [orL]), Below.refl _ _⟩
  case round =>
    obtain ⟨k, s, hk, rfl, rfl, HS, hbel⟩ := hrel
    by_cases hlt : k < l.length
    · rcases HCS.out with hcs | ⟨b, off, rfl, hbB, hcell⟩
      · subst hcs; simp at hlt
      · have c2 : wr.cell? ⟨b, off + k, none⟩ = some (.int .i64 l[k]) := (hbel.cell (p := ⟨b, off + k, none⟩) hbB).trans (hcell k hlt)
        have c3 := (hbel.cell (p := ⟨w.heap.size, 0, none⟩) z1).trans hbox
        have hst := orL_take (f := gadd os x) hlt
        obtain ⟨y1, y2⟩ := HM.out _ (List.getElem_mem hlt)
        obtain ⟨y, hy⟩ := Int.eq_ofNat_of_zero_le y1
        rw [hy] at c2 hst
        simp only [Int.toNat_natCast] at hst
        rw [← HS.out] at hst
        have hs : s < 16777216 := by
          have := orL_lt HF.out (l.take k)
          rw [← HS.out] at this
          simpa using this
        obtain ⟨z, hz⟩ : ∃ z, z = gadd os x y := ⟨_, rfl⟩
        have hz24 : z < 24 := by rw [hz]; exact HF.out y
        have CY := Lib.hid (fun w h => CN.out y w h (by omega))
        rw [← hz] at hst CY
        obtain ⟨T, hT, hT1, hw, hor⟩ := or_one s z hs hz24
        rw [← hT] at hst
        have HST := Lib.hid hst
        have hyk : y < 64 := by omega
        have zb : b < wr.heap.size := Nat.lt_of_lt_of_le hbB hbel.size
        have zw : w.heap.size < wr.heap.size := Nat.lt_of_lt_of_le z1 hbel.size
        have h3 := h2.below hbel (Nat.le_refl _)
        have hls : s ||| T < 16777216 := by
          have := orL_lt HF.out (l.take (k + 1))
          rw [HST.out] at this
          simpa using this
        obtain ⟨s', hs'⟩ : ∃ s', s' = s ||| T := ⟨_, rfl⟩
        rw [← hs'] at hor hls HST
        have hki : (k : Int) < l.length := by omega
        clear hz hT hst hy y1 y2 hcell HCS hs'
        go_wp2_with fail
        go_region_held3 (fun w' => w'.cell? ⟨w.heap.size, 0, none⟩ = some (.slice a0 os.length c0) ∧ w'.cell? ⟨b, off + k, none⟩ = some (.int .i64 y)) (exact ⟨by assumption, by assumption⟩) (first
          | (go_at_call 102; refine (CY.out _ h3.drew).mono ?_; rintro e w6 ⟨rfl, b6⟩; have q8 := (b6.cell (p := ⟨w.heap.size, 0, none⟩) zw).trans c3; have q9 := (b6.cell (p := ⟨b, off + k, none⟩) zb).trans c2))
        go_wp2_with fail
        go_roundw
        · exact ⟨k + 1, s', by omega, by go_num, rfl, Lib.hid HST.out.symm, nx hbel (below_undrew b6)⟩
        · simp only [intOf]; omega
    · obtain rfl : k = l.length := by omega
      have e := HS.out
      rw [List.take_length] at e
      subst e
      clear HS HF HM HCS
      go_wp2_with fail
      go_ret
      exact ⟨rfl, nx B1 hbel⟩
set_option maxHeartbeats 1600000 in
theorem shift_any (a0 : Option Addr) (c0 : Nat) (os : List Int) (a x : Nat) (w : World) (h0 : Ints w a0 c0 os) (hg0 : grpB os = true) (ha : a < 1099511627776) (hx : x ≤ 1000000) :
    Calls Try.prog 133 #[.agg #[.slice a0 os.length c0], .int .i64 a, .int .i64 x] w fun e w' => e = .returned (.int .i64 (orL (gadd os x) (mems a))) ∧ Below w.heap.size w w' := by
  have hb0 := (Below.refl w.heap.size w).alloc (Nat.le_refl _) (.cells #[.slice a0 os.length c0] 26)
  have h1 := h0.below hb0 (Nat.le_refl _)
  have CN := Lib.hid (fun y w h hy => add_any a0 c0 os x y w h hg0 hx hy)
  have HF := Lib.hid (fun y => gadd_lt24 hg0 x y)
  have hbox : (w.alloc (.cells #[.slice a0 os.length c0] 26)).cell? ⟨w.heap.size, 0, none⟩ = some (.slice a0 os.length c0) := by simp [go_sem]
  clear hg0
  obtain ⟨w1, hw1⟩ : ∃ w1, w1 = w.alloc (.cells #[.slice a0 os.length c0] 26) := ⟨_, rfl⟩
  have z1 : w.heap.size < w1.heap.size := by rw [hw1]; simp
  rw [← hw1] at hb0 h1 hbox
  have HW1 := Lib.hid hw1
  go_enter Try.func133, Try.ntmps133
  go_wp2_with fail
  rw [← HW1.out]
  clear HW1 hw1
  go_loopw [7, 8] (fun vs vi wr => ∃ (k s : Nat), k ≤ 40 ∧ vi = .int .i64 k ∧ vs = .int .i64 s ∧ Hid (s = orL (gadd os x) (memsTo a k)) ∧ Below w1.heap.size w1 wr) (fun _ i _ => (64 - intOf i).toNat)
  case atStart => exact ⟨0, 0, by omega, rfl, rfl, Lib.hid (by simp [orL, memsTo]), Below.refl _ _⟩
  case round =>
    obtain ⟨k, s, hk, rfl, rfl, HS, hbel⟩ := hrel
    by_cases hle : 2 ^ k ≤ a
    · have hk2 := lt40_of ha hle
      have hsh : (((a : Int) / 2 ^ k) != 0) = true := by rw [shr_ne]; exact decide_eq_true hle
      have c3 := (hbel.cell (p := ⟨w.heap.size, 0, none⟩) z1).trans hbox
      have h3 := h1.below hbel (Nat.le_refl _)
      cases ht : a.testBit k
      · have hbt : (bits .and .i64 ((a : Int) / 2 ^ k) 1 == 1) = false := by rw [bit_is a k (by omega), ht]
        have HST := Lib.hid (show s = orL (gadd os x) (memsTo a (k + 1)) by rw [memsTo_no ht]; exact HS.out)
        clear HS
        go_wp2_with fail
        go_roundw
        · exact ⟨k + 1, s, by omega, by simp, rfl, HST, hbel⟩
        · simp only [intOf]; omega
      · have hbt : (bits .and .i64 ((a : Int) / 2 ^ k) 1 == 1) = true := by rw [bit_is a k (by omega), ht]
        have hst : orL (gadd os x) (memsTo a (k + 1)) = s ||| 2 ^ gadd os x k := by rw [memsTo_yes ht, orL_snoc, ← HS.out]; rfl
        have hs : s < 16777216 := by
          have := orL_lt HF.out (memsTo a k)
          rw [← HS.out] at this
          simpa using this
        obtain ⟨z, hz⟩ : ∃ z, z = gadd os x k := ⟨_, rfl⟩
        have hz24 : z < 24 := by rw [hz]; exact HF.out k
        have CY := Lib.hid (fun w h => CN.out k w h (by omega))
        rw [← hz] at hst CY
        obtain ⟨T, hT, hT1, hw, hor⟩ := or_one s z hs hz24
        rw [← hT] at hst
        have HST := Lib.hid hst
        have hls : s ||| T < 16777216 := by
          have := orL_lt HF.out (memsTo a (k + 1))
          rw [HST.out] at this
          simpa using this
        obtain ⟨s', hs'⟩ : ∃ s', s' = s ||| T := ⟨_, rfl⟩
        rw [← hs'] at hor hls HST
        clear hz hT hst hs' HS
        go_wp2_with fail
        refine (CY.out _ h3).mono ?_; rintro e w6 ⟨rfl, b6⟩
        go_wp2_with fail
        go_roundw
        · exact ⟨k + 1, s', by omega, by simp, rfl, Lib.hid HST.out.symm, nx hbel b6⟩
        · simp only [intOf]; omega
    · have hsh : (((a : Int) / 2 ^ k) != 0) = false := by rw [shr_ne]; exact decide_eq_false hle
      have e : s = orL (gadd os x) (mems a) := by rw [mems_at (Nat.lt_of_not_le hle) (by omega)]; exact HS.out
      subst e
      clear HS HF
      go_wp2_with fail
      go_ret
      exact ⟨rfl, nx hb0 hbel⟩

end Go.Proofs.Ytokpgbpdmfibjaa
