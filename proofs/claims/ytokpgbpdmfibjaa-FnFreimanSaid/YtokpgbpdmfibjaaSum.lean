/-
Contracts of both sums of sets. Conditions: sets of a group.
-/
import Derived.Test.YtokpgbpdmfibjaaOrs
namespace Go.Proofs.Ytokpgbpdmfibjaa
open Go.RowKit Go.ChangeShapes

/-- The union of sets over a list. -/
def orF (F : Nat → Nat) (l : List Int) : Nat := l.foldl (fun s y => s ||| F y.toNat) 0
theorem orF_snoc (F : Nat → Nat) (l : List Int) (y : Int) : orF F (l ++ [y]) = orF F l ||| F y.toNat := by simp [orF, List.foldl_append]
theorem orF_take {F : Nat → Nat} {l : List Int} {k : Nat} (h : k < l.length) : orF F (l.take (k + 1)) = orF F (l.take k) ||| F l[k].toNat := by
  rw [take_snoc' l k h, orF_snoc]
theorem foldl_orF_bit (F : Nat → Nat) (i : Nat) : ∀ (l : List Int) (s : Nat), (l.foldl (fun s y => s ||| F y.toNat) s).testBit i = (s.testBit i || l.any fun y => (F y.toNat).testBit i)
  | [], s => by simp
  | y :: l, s => by
    rw [List.foldl_cons, foldl_orF_bit F i l, Nat.testBit_or, List.any_cons, Bool.or_assoc]
theorem orF_bit (F : Nat → Nat) (l : List Int) (i : Nat) : (orF F l).testBit i = l.any fun y => (F y.toNat).testBit i := by
  unfold orF; rw [foldl_orF_bit]; simp
theorem orF_lt {F : Nat → Nat} {m : Nat} (hF : ∀ y, F y < 2 ^ m) (l : List Int) : orF F l < 2 ^ m := by
  unfold orF
  have : ∀ (l : List Int) (s : Nat), s < 2 ^ m → l.foldl (fun s y => s ||| F y.toNat) s < 2 ^ m := by
    intro l
    induction l with
    | nil => intro s h; exact h
    | cons y l ih =>
      intro s h
      exact ih _ (Nat.or_lt_two_pow h (hF _))
  exact this l 0 (Nat.two_pow_pos m)
/-- A shifted set. -/
def shS (os : List Int) (a x : Nat) : Nat := orL (gadd os x) (mems a)
/-- The sum of two sets, by the first one's elements. -/
def sumS (os : List Int) (a b : Nat) : Nat := orF (shS os b) (mems a)
theorem shS_lt {os : List Int} (h : grpB os = true) (a x : Nat) : shS os a x < 2 ^ 24 := orL_lt (fun y => gadd_lt24 h x y) _
theorem sumS_lt {os : List Int} (h : grpB os = true) (a b : Nat) : sumS os a b < 2 ^ 24 := orF_lt (fun x => shS_lt h b x) _
theorem sumS_bit (os : List Int) (a b i : Nat) : (sumS os a b).testBit i = (mems a).any fun x => (mems b).any fun y => gadd os x.toNat y.toNat == i := by
  unfold sumS shS
  rw [orF_bit]
  congr 1
  funext x
  exact orL_bit _ _ _
theorem sumS_comm (os : List Int) (a b : Nat) : sumS os a b = sumS os b a := by
  apply Nat.eq_of_testBit_eq
  intro i
  rw [sumS_bit, sumS_bit, Bool.eq_iff_iff]
  simp only [List.any_eq_true]
  constructor
  · rintro ⟨x, hx, y, hy, h⟩
    exact ⟨y, hy, x, hx, by rw [gadd_comm]; exact h⟩
  · rintro ⟨x, hx, y, hy, h⟩
    exact ⟨y, hy, x, hx, by rw [gadd_comm]; exact h⟩

set_option maxHeartbeats 1600000 in
theorem l4Sum_any (a0 : Option Addr) (c0 : Nat) (os : List Int) (a b : Nat) (w : World) (h0 : Ints w a0 c0 os) (hg0 : grpB os = true) (ha : a < 1099511627776) (hb : b < 1099511627776) :
    Calls Try.prog 90 #[.agg #[.slice a0 os.length c0], .int .i64 a, .int .i64 b] w fun e w' => e = .returned (.int .i64 (sumS os b a)) ∧ Below w.heap.size w w' := by
  have hb0 := (Below.refl w.heap.size w).alloc (Nat.le_refl _) (.cells #[.slice a0 os.length c0] 26)
  have h1 := h0.below hb0 (Nat.le_refl _)
  have CN := Lib.hid (fun x w h hx => l3Shift_any a0 c0 os a x w h hg0 ha hx)
  have CL := Lib.hid (l3List_any b hb)
  obtain ⟨F, hF⟩ : ∃ F, F = shS os a := ⟨_, rfl⟩
  have hv : sumS os b a = orF F (mems b) := by rw [hF]; rfl
  rw [hv]
  have HF := Lib.hid (show ∀ x, F x < 2 ^ 24 by rw [hF]; exact fun x => shS_lt hg0 a x)
  have CS := Lib.hid (show ∀ (x : Nat) w, Ints w a0 c0 os → x ≤ 1000000 → Calls Try.prog 94 #[.agg #[.slice a0 os.length c0], .int .i64 a, .int .i64 x] w fun e w' => e = .returned (.int .i64 (F x)) ∧ Below w.heap.size w w' by rw [hF]; exact CN.out)
  have HM := Lib.hid (fun x (hx : x ∈ mems b) => mems_bd hx)
  have hlen := mems_len b
  obtain ⟨l, hl⟩ : ∃ l, l = mems b := ⟨_, rfl⟩
  rw [← hl] at CL HM hlen ⊢
  clear hl hg0 hF hv CN
  go_enter Try.func90, Try.ntmps90
  go_wp2_with fail
  refine (CL.out _).mono ?_; rintro e w1 ⟨a1, c1, rfl, o1, b1⟩
  have hbox := box_cell b1 (by simp)
  have h2 := h1.below b1 (Nat.le_refl _)
  have B1 := nx hb0 b1
  have z1 : w.heap.size < w1.heap.size := by have := b1.size; simp at this; omega
  obtain ⟨-, -, -, -, hcs⟩ := o1.ints
  have HCS := Lib.hid hcs
  clear hcs b1 hb0 h1 h0
  go_wp2_with fail
  go_loopw [7, 9] (fun vs vi wr => ∃ (k s : Nat), k ≤ l.length ∧ vi = .int .i64 k ∧ vs = .int .i64 s ∧ Hid (s = orF F (l.take k)) ∧ Below w1.heap.size w1 wr) (fun _ i _ => l.length - (intOf i).toNat)
  case atStart => exact ⟨0, 0, by omega, rfl, rfl, Lib.hid (by simp [orF]), Below.refl _ _⟩
  case round =>
    obtain ⟨k, s, hk, rfl, rfl, HS, hbel⟩ := hrel
    by_cases hlt : k < l.length
    · rcases HCS.out with hcs | ⟨b', off, rfl, hbB, hcell⟩
      · subst hcs; simp at hlt
      · have c2 : wr.cell? ⟨b', off + k, none⟩ = some (.int .i64 l[k]) := (hbel.cell (p := ⟨b', off + k, none⟩) hbB).trans (hcell k hlt)
        have c3 := (hbel.cell (p := ⟨w.heap.size, 0, none⟩) z1).trans hbox
        have hst := orF_take (F := F) hlt
        obtain ⟨y1, y2⟩ := HM.out _ (List.getElem_mem hlt)
        obtain ⟨y, hy⟩ := Int.eq_ofNat_of_zero_le y1
        rw [hy] at c2 hst
        simp only [Int.toNat_natCast] at hst
        rw [← HS.out] at hst
        have hs : s < 16777216 := by
          have := orF_lt HF.out (l.take k)
          rw [← HS.out] at this
          simpa using this
        have CY := Lib.hid (fun w h => CS.out y w h (by omega))
        have hT1 : F y < 16777216 := by simpa using HF.out y
        obtain ⟨T, hT⟩ : ∃ T, T = F y := ⟨_, rfl⟩
        rw [← hT] at hst CY hT1
        have hor := or_nat s T (by omega) (by omega)
        have HST := Lib.hid hst
        have zb : b' < wr.heap.size := Nat.lt_of_lt_of_le hbB hbel.size
        have zw : w.heap.size < wr.heap.size := Nat.lt_of_lt_of_le z1 hbel.size
        have h3 := h2.below hbel (Nat.le_refl _)
        have hls : s ||| T < 16777216 := by
          have := orF_lt HF.out (l.take (k + 1))
          rw [HST.out] at this
          simpa using this
        obtain ⟨s', hs'⟩ : ∃ s', s' = s ||| T := ⟨_, rfl⟩
        rw [← hs'] at hor hls HST
        have hki : (k : Int) < l.length := by omega
        clear hT hst hy y1 y2 hcell HCS hs'
        go_wp2_with fail
        go_region_held3 (fun w' => w'.cell? ⟨w.heap.size, 0, none⟩ = some (.slice a0 os.length c0) ∧ w'.cell? ⟨b', off + k, none⟩ = some (.int .i64 y)) (exact ⟨by assumption, by assumption⟩) (first
          | (go_at_call 94; refine (CY.out _ h3.drew).mono ?_; rintro e w6 ⟨rfl, b6⟩; have q8 := (b6.cell (p := ⟨w.heap.size, 0, none⟩) zw).trans c3; have q9 := (b6.cell (p := ⟨b', off + k, none⟩) zb).trans c2))
        go_wp2_with fail
        go_roundw
        · exact ⟨k + 1, s', by omega, by go_num, rfl, Lib.hid HST.out.symm, nx hbel (below_undrew b6)⟩
        · simp only [intOf]; omega
    · obtain rfl : k = l.length := by omega
      have e := HS.out
      rw [List.take_length] at e
      subst e
      clear HS HF HM HCS
      go_wp2_with fail
      go_ret
      exact ⟨rfl, nx B1 hbel⟩


end Go.Proofs.Ytokpgbpdmfibjaa
