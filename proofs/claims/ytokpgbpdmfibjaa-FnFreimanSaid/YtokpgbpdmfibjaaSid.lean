/-
Contract of the program's IsSidon: all sums of two elements, equal ones included, are different. Conditions: lengths at most 2000000.
-/
import Derived.Test.YtokpgbpdmfibjaaTri
namespace Go.Proofs.Ytokpgbpdmfibjaa
open Go.RowKit Go.ChangeShapes

/-- The sum of the elements at two places. -/
def sidS (os l : List Int) (i j : Nat) : Nat := gadd os (elt l i) (elt l j)
/-- The pair (k, m) comes ahead of the pair (i, j). -/
def Bef (n i j k m : Nat) : Prop := k ≤ m ∧ m < n ∧ (k < i ∨ (k = i ∧ m < j))
/-- No pair ahead of (i, j) has its sum. -/
def SidAt (os l : List Int) (i j : Nat) : Prop := ∀ k m, Bef l.length i j k m → sidS os l k m ≠ sidS os l i j
/-- What both say of the elements. -/
def SidP (os l : List Int) : Prop := ∀ i j, i ≤ j → j < l.length → SidAt os l i j
/-- All pairs ahead of (i, j) are fine. -/
def SidTo (os l : List Int) (i j : Nat) : Prop := ∀ k m, Bef l.length i j k m → SidAt os l k m
/-- The sums of the pairs ahead of (i, j). -/
def SeenAt (os l : List Int) (i j s : Nat) : Prop := ∀ z, s.testBit z = true ↔ ∃ k m, Bef l.length i j k m ∧ sidS os l k m = z
open Classical in
noncomputable def sidB (os : List Int) (a : Int) : Bool := setB os a && decide (SidP os (mems a.toNat))
theorem Bef.step {n i j k m : Nat} (hij : i ≤ j) (hj : j < n) : Bef n i (j + 1) k m ↔ Bef n i j k m ∨ (k = i ∧ m = j) := by
  unfold Bef; omega
theorem Bef.next {n i k m : Nat} : Bef n (i + 1) (i + 1) k m ↔ Bef n i n k m := by
  unfold Bef; omega
theorem Bef.zero {n k m : Nat} : ¬ Bef n 0 0 k m := by unfold Bef; omega
theorem SeenAt.zero (os l : List Int) : SeenAt os l 0 0 0 := fun z => ⟨fun h => by simp at h, fun ⟨_, _, h, _⟩ => absurd h Bef.zero⟩
theorem SeenAt.step {os l : List Int} {i j s : Nat} (h : SeenAt os l i j s) (hij : i ≤ j) (hj : j < l.length) : SeenAt os l i (j + 1) (s ||| 2 ^ sidS os l i j) := fun z => by
  rw [Nat.testBit_or, Nat.testBit_two_pow, Bool.or_eq_true, h z, decide_eq_true_eq]
  constructor
  · rintro (⟨k, m, hb, he⟩ | he)
    · exact ⟨k, m, (Bef.step hij hj).2 (.inl hb), he⟩
    · exact ⟨i, j, (Bef.step hij hj).2 (.inr ⟨rfl, rfl⟩), he⟩
  · rintro ⟨k, m, hb, he⟩
    rcases (Bef.step hij hj).1 hb with hb | ⟨rfl, rfl⟩
    · exact .inl ⟨k, m, hb, he⟩
    · exact .inr he
theorem SeenAt.next {os l : List Int} {i s : Nat} (h : SeenAt os l i l.length s) : SeenAt os l (i + 1) (i + 1) s := fun z => by
  rw [h z]
  constructor
  · rintro ⟨k, m, hb, he⟩; exact ⟨k, m, Bef.next.2 hb, he⟩
  · rintro ⟨k, m, hb, he⟩; exact ⟨k, m, Bef.next.1 hb, he⟩
theorem SidTo.step {os l : List Int} {i j : Nat} (h : SidTo os l i j) (hij : i ≤ j) (hj : j < l.length) (ha : SidAt os l i j) : SidTo os l i (j + 1) := fun k m hb => by
  rcases (Bef.step hij hj).1 hb with hb | ⟨rfl, rfl⟩
  · exact h k m hb
  · exact ha
theorem SidTo.next {os l : List Int} {i : Nat} (h : SidTo os l i l.length) : SidTo os l (i + 1) (i + 1) := fun k m hb => h k m (Bef.next.1 hb)
theorem SidTo.all {os l : List Int} {i : Nat} (h : SidTo os l i i) (hi : l.length ≤ i) : SidP os l := fun k m h1 h2 => h k m ⟨h1, h2, .inl (by omega)⟩
theorem SeenAt.no {os l : List Int} {i j s : Nat} (h : SeenAt os l i j s) (hs : s.testBit (sidS os l i j) = false) : SidAt os l i j := fun k m hb he => by
  have := (h (sidS os l i j)).2 ⟨k, m, hb, he⟩
  rw [hs] at this; cases this
theorem SeenAt.yes {os l : List Int} {i j s : Nat} (h : SeenAt os l i j s) (hij : i ≤ j) (hj : j < l.length) (hs : s.testBit (sidS os l i j) = true) : ¬ SidP os l := fun hP => by
  obtain ⟨k, m, hb, he⟩ := (h _).1 hs
  exact hP i j hij hj k m hb he
set_option maxRecDepth 20000 in
set_option maxHeartbeats 3200000 in
theorem sid_impl (a0 : Option Addr) (c0 : Nat) (os : List Int) (a : Int) (w : World) (h0 : Ints w a0 c0 os) (hlo : os.length ≤ 2000000) :
    Calls Try.prog 57 #[.agg #[.slice a0 os.length c0], .int .i64 a] w fun e w' => e = .returned (.bool (sidB os a)) ∧ Below w.heap.size w w' := by
  have hb0 := (Below.refl w.heap.size w).alloc (Nat.le_refl _) (.cells #[.slice a0 os.length c0] 26)
  have h1 := h0.below hb0 (Nat.le_refl _)
  have C := Lib.hid (fun w h => isSet_impl a0 c0 os a w h hlo)
  cases hs : setB os a with
  | false =>
    have e : sidB os a = false := by simp [sidB, hs]
    rw [e]
    rw [hs] at C
    clear hs e
    go_enter Try.func57, Try.ntmps57
    go_wp2_with fail
    refine (C.out _ h1).mono ?_; rintro e w1 ⟨rfl, b1⟩
    go_wp2_with fail
    go_ret
    exact ⟨rfl, nx hb0 b1⟩
  | true =>
    obtain ⟨hg0, m, rfl, hm⟩ := setB_parts hs
    have hT := setT_bd hg0
    have e : ∃ r, sidB os (m : Int) = r ∧ ((SidP os (mems m) ∧ r = true) ∨ (¬ SidP os (mems m) ∧ r = false)) := by
      by_cases hp : SidP os (mems m)
      · exact ⟨true, by simp [sidB, hs, hp], .inl ⟨hp, rfl⟩⟩
      · exact ⟨false, by simp [sidB, hs, hp], .inr ⟨hp, rfl⟩⟩
    obtain ⟨r, hr0, hr⟩ := e
    rw [hr0]
    rw [hs] at C
    have CL := Lib.hid (members_any m (by omega))
    have HM := Lib.hid (fun x (hx : x ∈ mems m) => mems_bd hx)
    have hlen := mems_len m
    obtain ⟨l, hl⟩ : ∃ l, l = mems m := ⟨_, rfl⟩
    rw [← hl] at CL HM hlen hr
    have HF := Lib.hid (fun x y => gadd_lt24 hg0 x y)
    have CI := Lib.hid in_any
    have CA := Lib.hid (fun x y w h hx hy => add_any a0 c0 os x y w h hg0 hx hy)
    clear hl hs hr0 hT hm hg0
    have HR := Lib.hid hr
    clear hr
    go_enter Try.func57, Try.ntmps57
    go_wp2_with fail
    refine (C.out _ h1).mono ?_; rintro e w1 ⟨rfl, b1⟩
    have hbox := box_cell b1 (by simp)
    have h2 := h1.below b1 (Nat.le_refl _)
    have B1 := nx hb0 b1
    have z1 : w.heap.size < w1.heap.size := by have := b1.size; simp at this; omega
    go_wp2_with fail
    refine (CL.out _).mono ?_; rintro e w2 ⟨a1, c1, rfl, o1, b2⟩
    have hbox2 := (b2.cell (p := ⟨w.heap.size, 0, none⟩) z1).trans hbox
    have h3 := h2.below b2 (Nat.le_refl _)
    have B2 := nx B1 b2
    have z2 : w.heap.size < w2.heap.size := Nat.lt_of_lt_of_le z1 b2.size
    obtain ⟨hcap, -, -, -, hcs⟩ := o1.ints
    have HCS := Lib.hid hcs
    clear hcs b1 b2 hb0 h0 h1 h2 hbox B1 z1
    go_wp2_with fail
    go_loopw [5, 20] (fun vc vi wr => ∃ (i s : Nat), i ≤ l.length ∧ vi = .int .i64 i ∧ vc = .int .i64 s ∧ Hid (SeenAt os l i i s) ∧ Hid (SidTo os l i i) ∧ s < 16777216 ∧ Below w2.heap.size w2 wr) (fun _ i _ => l.length - (intOf i).toNat)
    case atStart => exact ⟨0, 0, by omega, rfl, rfl, Lib.hid (SeenAt.zero os l), Lib.hid (fun k m hb => absurd hb Bef.zero), by omega, Below.refl _ _⟩
    case round =>
      obtain ⟨i, s, hi, rfl, rfl, HS, HT, hsb, hbel⟩ := hrel
      by_cases hlt : i < l.length
      · rcases HCS.out with hcs | ⟨b, off, rfl, hbB, hcell⟩
        · subst hcs; simp at hlt
        · obtain ⟨ei, ni⟩ := elt_at hlt HM.out
          have HCI := Lib.hid (hcell i hlt)
          rw [ei] at HCI
          have HCA := Lib.hid hcell
          have c5 := (hbel.cell (p := ⟨b, off + i, none⟩) hbB).trans HCI.out
          obtain ⟨x, hx⟩ : ∃ x, x = elt l i := ⟨_, rfl⟩
          rw [← hx] at c5 ni
          have HX := Lib.hid hx
          have hic : i < c1 := by omega
          clear hcell ei HCS HCI hx
          go_wp2_with fail
          go_loopw [5, 29] (fun vc vk wq => ∃ (k s : Nat), k ≤ l.length - i ∧ vk = .int .i64 k ∧ vc = .int .i64 s ∧ Hid (SeenAt os l i (i + k) s) ∧ Hid (SidTo os l i (i + k)) ∧ s < 16777216 ∧ Below w2.heap.size w2 wq) (fun _ k _ => l.length - i - (intOf k).toNat)
          case atStart => exact ⟨0, s, by omega, rfl, rfl, HS, HT, hsb, hbel⟩
          case round =>
            clear hsb hbel HS HT c5
            obtain ⟨k, s, hk, rfl, rfl, HS, HT, hsb, hbel⟩ := hrel
            by_cases hlk : k < l.length - i
            · obtain ⟨ek, nk⟩ := elt_at (show i + k < l.length by omega) HM.out
              have HCK := Lib.hid (HCA.out (i + k) (by omega))
              rw [ek] at HCK
              have c6 : wr.cell? ⟨b, off + i + k, none⟩ = some (.int .i64 (elt l (i + k))) := by rw [Nat.add_assoc off]; exact (hbel.cell (p := ⟨b, off + (i + k), none⟩) hbB).trans HCK.out
              obtain ⟨y, hy⟩ : ∃ y, y = elt l (i + k) := ⟨_, rfl⟩
              rw [← hy] at c6 nk
              obtain ⟨z, hz⟩ : ∃ z, z = sidS os l i (i + k) := ⟨_, rfl⟩
              have hz24 : z < 24 := by rw [hz]; exact HF.out _ _
              have C1 := Lib.hid (fun w h => CA.out x y w h (by omega) (by omega))
              have hzz : gadd os x y = z := by rw [hz, HX.out, hy]; rfl
              rw [hzz] at C1
              have q4 := (hbel.cell (p := ⟨w.heap.size, 0, none⟩) z2).trans hbox2
              have h4 := h3.below hbel (Nat.le_refl _)
              have CB := Lib.hid (CI.out s z (by omega) (by omega))
              cases ht : s.testBit z with
              | true =>
                rw [ht] at CB
                have hno : r = false := by
                  rcases HR.out with ⟨hp, _⟩ | ⟨_, e⟩
                  · exact absurd hp (HS.out.yes (by omega) (by omega) (by rw [← hz]; exact ht))
                  · exact e
                subst hno
                clear HR hz hzz hy ek HS HT ht HCK hbox2
                go_wp2_with fail
                refine (C1.out _ h4).mono ?_; rintro e w5 ⟨rfl, b5⟩
                go_wp2_with fail
                refine (CB.out _).mono ?_; rintro e w' ⟨rfl, rfl⟩
                go_wp2_with fail
                go_ret
                exact ⟨rfl, nx B2 (nx hbel b5)⟩
              | false =>
                rw [ht] at CB
                obtain ⟨T, hT, hT1, hw, hor⟩ := or_one s z hsb hz24
                have HS2 := Lib.hid (show SeenAt os l i (i + (k + 1)) (s ||| T) by rw [hT, hz]; exact HS.out.step (by omega) (by omega))
                have HT2 := Lib.hid (show SidTo os l i (i + (k + 1)) from HT.out.step (by omega) (by omega) (HS.out.no (by rw [← hz]; exact ht)))
                have hls : s ||| T < 16777216 := by
                  have : s ||| T < 2 ^ 24 := Nat.or_lt_two_pow (by omega) (by rw [hT]; exact Nat.pow_lt_pow_right (by decide) hz24)
                  simpa using this
                obtain ⟨s', hs'⟩ : ∃ s', s' = s ||| T := ⟨_, rfl⟩
                rw [← hs'] at hor hls HS2
                clear hz hzz hy ek HS HT ht HCK hbox2 hT hs'
                go_wp2_with fail
                refine (C1.out _ h4).mono ?_; rintro e w5 ⟨rfl, b5⟩
                go_wp2_with fail
                refine (CB.out _).mono ?_; rintro e w' ⟨rfl, rfl⟩
                go_wp2_with fail
                go_roundw
                · exact ⟨k + 1, s', by omega, by go_num, rfl, HS2, HT2, hls, nx hbel b5⟩
                · simp only [intOf]; omega
            · obtain rfl : k = l.length - i := by omega
              have HN := Lib.hid (show SeenAt os l (i + 1) (i + 1) s from (show SeenAt os l i l.length s by have := HS.out; rwa [show i + (l.length - i) = l.length by omega] at this).next)
              have HN2 := Lib.hid (show SidTo os l (i + 1) (i + 1) from (show SidTo os l i l.length by have := HT.out; rwa [show i + (l.length - i) = l.length by omega] at this).next)
              clear HS HT
              go_wp2_with fail
              go_roundw
              · exact ⟨i + 1, s, by omega, by go_num, rfl, HN, HN2, hsb, hbel⟩
              · simp only [intOf]; omega
      · have hyes : r = true := by
          rcases HR.out with ⟨_, e⟩ | ⟨hp, _⟩
          · exact e
          · exact absurd (HT.out.all (by omega)) hp
        subst hyes
        clear HS HT HM HCS HR
        go_wp2_with fail
        go_ret
        exact ⟨rfl, nx B2 hbel⟩
end Go.Proofs.Ytokpgbpdmfibjaa
