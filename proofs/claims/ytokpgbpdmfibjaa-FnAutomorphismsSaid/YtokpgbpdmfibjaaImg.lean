/-
Contracts of both sides' images of sets and of ImageOfSet. Conditions: lengths at most 2000000.
-/
import Derived.Test.YtokpgbpdmfibjaaAut
namespace Go.Proofs.Ytokpgbpdmfibjaa
open Go.RowKit Go.ChangeShapes
set_option linter.unusedVariables false

/-- The set of the images. -/
def imS (f : List Int) (a : Nat) : Nat := orL (elt f) (mems a)
/-- A list of at most 24 numbers from 0 to 23. -/
def Small (f : List Int) : Prop := f.length ≤ 24 ∧ ∀ x ∈ f, 0 ≤ x ∧ x < 24
theorem elt_small {f : List Int} (h : Small f) (i : Nat) : elt f i < 24 := by
  by_cases hi : i < f.length
  · obtain ⟨e1, e2⟩ := elt_at hi (fun x hx => by have := h.2 x hx; omega)
    have := h.2 _ (List.getElem_mem hi)
    rw [e1] at this
    omega
  · simp [elt, List.getD, List.getElem?_eq_none (show f.length ≤ i by omega)]
theorem imS_lt {f : List Int} (h : Small f) (a : Nat) : imS f a < 16777216 := by
  unfold imS
  simpa using orL_lt (fun y => elt_small h y) (mems a)

set_option maxRecDepth 20000 in
set_option maxHeartbeats 1600000 in
theorem image_any (a0 : Option Addr) (c0 : Nat) (f : List Int) (a : Nat) (w : World) (h0 : Ints w a0 c0 f) (hf : Small f) (ha : a < 2 ^ f.length) :
    Calls Try.prog 86 #[.slice a0 f.length c0, .int .i64 a] w fun e w' => e = .returned (.int .i64 (imS f a : Int)) ∧ Below w.heap.size w w' := by
  have hf1 := hf.1
  have ha24 : a < 2 ^ 24 := Nat.lt_of_lt_of_le ha (Nat.pow_le_pow_right (by decide) hf1)
  have CL := Lib.hid (members_any a (by omega))
  have HX : Hid (∀ x ∈ mems a, ∃ y : Nat, x = (y : Int) ∧ y < f.length) := Lib.hid (fun x hx => by
    obtain ⟨i, rfl, hi, hb⟩ := memsTo_mem.1 hx
    refine ⟨i, rfl, ?_⟩
    apply Nat.lt_of_not_le
    intro hn
    rw [Nat.testBit_lt_two_pow (Nat.lt_of_lt_of_le ha (Nat.pow_le_pow_right (by decide) hn))] at hb
    cases hb)
  have hlen := mems_len a
  have HOL : Hid (∀ k, orL (elt f) ((mems a).take k) < 16777216) := Lib.hid (fun k => by simpa using orL_lt (fun y => elt_small hf y) ((mems a).take k))
  have HES := Lib.hid (fun i => elt_small hf i)
  have HM := Lib.hid (fun (x : Int) hx => (show 0 ≤ x ∧ x < 64 from by have := hf.2 x hx; omega))
  unfold imS
  obtain ⟨l, hl⟩ : ∃ l, l = mems a := ⟨_, rfl⟩
  rw [← hl] at CL HX HOL hlen ⊢
  obtain ⟨-, -, -, -, hcf⟩ := h0
  have HCF := Lib.hid hcf
  have haN : a < 16777216 := by omega
  clear hl hcf ha hf ha24
  go_enter Try.func86, Try.ntmps86
  go_wp2_with fail
  refine (CL.out _).mono ?_; rintro e w1 ⟨a1, c1, rfl, o1, b1⟩
  obtain ⟨-, -, -, -, hcs⟩ := o1.ints
  have HCS := Lib.hid hcs
  clear hcs
  go_wp2_with fail
  go_loop [5, 11] (fun vs vi => ∃ (k s : Nat), k ≤ l.length ∧ vi = .int .i64 (k : Int) ∧ vs = .int .i64 (s : Int) ∧ Hid (s = orL (elt f) (l.take k))) (fun _ i => l.length - (intOf i).toNat)
  case atStart => exact ⟨0, 0, by omega, rfl, rfl, Lib.hid (by simp [orL])⟩
  case round =>
    obtain ⟨k, s, hk, rfl, rfl, HS⟩ := hrel
    by_cases hlt : k < l.length
    · rcases HCS.out with hcs | ⟨b, off, rfl, hbB, hcell⟩
      · subst hcs; simp at hlt
      · have c2 := hcell k hlt
        obtain ⟨y, hy, hyl⟩ := HX.out _ (List.getElem_mem hlt)
        rcases HCF.out with hcf | ⟨b', off', rfl, hbB', hcellf⟩
        · subst hcf; simp at hyl
        · have hst := orL_take (f := elt f) hlt
          have hol := HOL.out (k + 1)
          have hs24 := HOL.out k
          have ef := (elt_at hyl HM.out).1
          have c3 := (b1.cell (p := ⟨b', off' + y, none⟩) hbB').trans (hcellf y hyl)
          rw [hy] at c2 hst
          rw [ef] at c3
          simp only [Int.toNat_natCast] at hst
          rw [← HS.out] at hst hs24
          have hz24 := HES.out y
          obtain ⟨z, hz⟩ : ∃ z, z = elt f y := ⟨_, rfl⟩
          rw [← hz] at hst c3 hz24
          obtain ⟨T, hT, hT1, hw, hor⟩ := or_one s z hs24 hz24
          rw [← hT] at hst
          rw [hst] at hol
          have HST := Lib.hid hst
          have hki : (k : Int) < l.length := by omega
          have hyi : (y : Int) < f.length := by omega
          obtain ⟨s', hs'⟩ : ∃ s', s' = s ||| T := ⟨_, rfl⟩
          rw [← hs'] at hor hol HST
          clear hz hT hst hy hcell hcellf hs' ef
          go_wp2_with fail
          go_round
          case rel => exact ⟨k + 1, s', by omega, by go_num, rfl, Lib.hid HST.out.symm⟩
          case measure => simp [intOf]; omega
    · obtain rfl : k = l.length := by omega
      have e := HS.out
      rw [List.take_length] at e
      subst e
      clear HS HX HOL HM HES HCS HCF
      go_wp2_with fail
      go_ret
      exact ⟨rfl, b1⟩

set_option maxRecDepth 20000 in
set_option maxHeartbeats 1600000 in
theorem l27Image_any (a0 : Option Addr) (c0 : Nat) (f : List Int) (a : Nat) (w : World) (h0 : Ints w a0 c0 f) (hf : Small f) (ha : a < 2 ^ f.length) :
    Calls Try.prog 96 #[.slice a0 f.length c0, .int .i64 a] w fun e w' => e = .returned (.int .i64 (imS f a : Int)) ∧ Below w.heap.size w w' := by
  have hf1 := hf.1
  have ha24 : a < 2 ^ 24 := Nat.lt_of_lt_of_le ha (Nat.pow_le_pow_right (by decide) hf1)
  have CL := Lib.hid (l3List_any a (by omega))
  have HX : Hid (∀ x ∈ mems a, ∃ y : Nat, x = (y : Int) ∧ y < f.length) := Lib.hid (fun x hx => by
    obtain ⟨i, rfl, hi, hb⟩ := memsTo_mem.1 hx
    refine ⟨i, rfl, ?_⟩
    apply Nat.lt_of_not_le
    intro hn
    rw [Nat.testBit_lt_two_pow (Nat.lt_of_lt_of_le ha (Nat.pow_le_pow_right (by decide) hn))] at hb
    cases hb)
  have hlen := mems_len a
  have HOL : Hid (∀ k, orL (elt f) ((mems a).take k) < 16777216) := Lib.hid (fun k => by simpa using orL_lt (fun y => elt_small hf y) ((mems a).take k))
  have HES := Lib.hid (fun i => elt_small hf i)
  have HM := Lib.hid (fun (x : Int) hx => (show 0 ≤ x ∧ x < 64 from by have := hf.2 x hx; omega))
  unfold imS
  obtain ⟨l, hl⟩ : ∃ l, l = mems a := ⟨_, rfl⟩
  rw [← hl] at CL HX HOL hlen ⊢
  obtain ⟨-, -, -, -, hcf⟩ := h0
  have HCF := Lib.hid hcf
  have haN : a < 16777216 := by omega
  clear hl hcf ha hf ha24
  go_enter Try.func96, Try.ntmps96
  go_wp2_with fail
  refine (CL.out _).mono ?_; rintro e w1 ⟨a1, c1, rfl, o1, b1⟩
  obtain ⟨-, -, -, -, hcs⟩ := o1.ints
  have HCS := Lib.hid hcs
  clear hcs
  go_wp2_with fail
  go_loop [5, 7] (fun vs vi => ∃ (k s : Nat), k ≤ l.length ∧ vi = .int .i64 (k : Int) ∧ vs = .int .i64 (s : Int) ∧ Hid (s = orL (elt f) (l.take k))) (fun _ i => l.length - (intOf i).toNat)
  case atStart => exact ⟨0, 0, by omega, rfl, rfl, Lib.hid (by simp [orL])⟩
  case round =>
    obtain ⟨k, s, hk, rfl, rfl, HS⟩ := hrel
    by_cases hlt : k < l.length
    · rcases HCS.out with hcs | ⟨b, off, rfl, hbB, hcell⟩
      · subst hcs; simp at hlt
      · have c2 := hcell k hlt
        obtain ⟨y, hy, hyl⟩ := HX.out _ (List.getElem_mem hlt)
        rcases HCF.out with hcf | ⟨b', off', rfl, hbB', hcellf⟩
        · subst hcf; simp at hyl
        · have hst := orL_take (f := elt f) hlt
          have hol := HOL.out (k + 1)
          have hs24 := HOL.out k
          have ef := (elt_at hyl HM.out).1
          have c3 := (b1.cell (p := ⟨b', off' + y, none⟩) hbB').trans (hcellf y hyl)
          rw [hy] at c2 hst
          rw [ef] at c3
          simp only [Int.toNat_natCast] at hst
          rw [← HS.out] at hst hs24
          have hz24 := HES.out y
          obtain ⟨z, hz⟩ : ∃ z, z = elt f y := ⟨_, rfl⟩
          rw [← hz] at hst c3 hz24
          obtain ⟨T, hT, hT1, hw, hor⟩ := or_one s z hs24 hz24
          rw [← hT] at hst
          rw [hst] at hol
          have HST := Lib.hid hst
          have hki : (k : Int) < l.length := by omega
          have hyi : (y : Int) < f.length := by omega
          obtain ⟨s', hs'⟩ : ∃ s', s' = s ||| T := ⟨_, rfl⟩
          rw [← hs'] at hor hol HST
          clear hz hT hst hy hcell hcellf hs' ef
          go_wp2_with fail
          go_round
          case rel => exact ⟨k + 1, s', by omega, by go_num, rfl, Lib.hid HST.out.symm⟩
          case measure => simp [intOf]; omega
    · obtain rfl : k = l.length := by omega
      have e := HS.out
      rw [List.take_length] at e
      subst e
      clear HS HX HOL HM HES HCS HCF
      go_wp2_with fail
      go_ret
      exact ⟨rfl, b1⟩

noncomputable def imgV (os f : List Int) (a : Int) : Int := if autB os f = true ∧ setB os a = true then (imS f a.toNat : Int) else -1
theorem aut_parts {os f : List Int} (h : autB os f = true) : grpB os = true ∧ f.length = gn os ∧ Small f ∧ (∀ x ∈ f, 0 ≤ x ∧ x < (gn os : Int)) ∧ autP os f := by
  unfold autB at h
  simp only [Bool.and_eq_true] at h
  obtain ⟨h1, h2, h3⟩ := h
  have h2' := of_decide_eq_true h2
  obtain ⟨hg, -⟩ := so_parts h1
  obtain ⟨g2, g3, g4, g5, g6⟩ := grp_gn hg
  have hl := so_len h1 h2'
  have hm := so_lt h1
  exact ⟨hg, hl, ⟨by omega, fun x hx => by have := hm x hx; omega⟩, hm, @of_decide_eq_true _ (Classical.propDecidable _) h3⟩

set_option maxHeartbeats 1600000 in
theorem img_impl (a0 : Option Addr) (c0 : Nat) (os : List Int) (a1 : Option Addr) (c1 : Nat) (f : List Int) (a : Int) (w : World) (h0 : Ints w a0 c0 os) (k0 : Ints w a1 c1 f) (hl : os.length ≤ 2000000) (hlf : f.length ≤ 2000000) :
    Calls Try.prog 16 #[.agg #[.slice a0 os.length c0], .slice a1 f.length c1, .int .i64 a] w fun e w' => e = .returned (.int .i64 (imgV os f a)) ∧ Below w.heap.size w w' := by
  have hb0 := (Below.refl w.heap.size w).alloc (Nat.le_refl _) (.cells #[.slice a0 os.length c0] 26)
  have h1 := h0.below hb0 (Nat.le_refl _)
  have k1 := k0.below hb0 (Nat.le_refl _)
  have C := Lib.hid (fun w h h' => aut_impl a0 c0 os a1 c1 f w h h' hl hlf)
  have CS := Lib.hid (fun w h => isSet_impl a0 c0 os a w h hl)
  cases hA : autB os f with
  | false =>
    have e : imgV os f a = -1 := by simp [imgV, hA]
    rw [e]
    rw [hA] at C
    clear hA e
    go_enter Try.func16, Try.ntmps16
    go_wp2_with fail
    refine (C.out _ h1 k1).mono ?_; rintro e w1 ⟨rfl, b1⟩
    go_wp2_with fail
    go_ret
    exact ⟨rfl, nx hb0 b1⟩
  | true =>
    rw [hA] at C
    cases hS : setB os a with
    | false =>
      have e : imgV os f a = -1 := by simp [imgV, hS]
      rw [e]
      rw [hS] at CS
      clear hA hS e
      go_enter Try.func16, Try.ntmps16
      go_wp2_with fail
      refine (C.out _ h1 k1).mono ?_; rintro e w1 ⟨rfl, b1⟩
      have q1 := box_cell b1 (by simp)
      have h2 := h1.below b1 (Nat.le_refl _)
      have hb1 := nx hb0 b1
      go_wp2_with fail
      refine (CS.out _ h2).mono ?_; rintro e w2 ⟨rfl, b2⟩
      go_wp2_with fail
      go_ret
      exact ⟨rfl, nx hb1 b2⟩
    | true =>
      obtain ⟨hg, hfl, hsm, -, -⟩ := aut_parts hA
      obtain ⟨-, m, rfl, hm⟩ := setB_parts hS
      obtain ⟨g2, g3, g4, g5, g6⟩ := grp_gn hg
      have e : imgV os f (m : Int) = (imS f m : Int) := by simp [imgV, hA, hS]
      rw [e]
      rw [hS] at CS
      have CI := Lib.hid (fun w h => image_any a1 c1 f m w h hsm (by rw [hfl, ← g6]; exact hm))
      obtain ⟨v, hv⟩ : ∃ v, v = imS f m := ⟨_, rfl⟩
      rw [← hv] at CI ⊢
      clear hA hS e hg hfl hsm hm g2 g3 g4 g5 g6 hv
      go_enter Try.func16, Try.ntmps16
      go_wp2_with fail
      refine (C.out _ h1 k1).mono ?_; rintro e w1 ⟨rfl, b1⟩
      have q1 := box_cell b1 (by simp)
      have h2 := h1.below b1 (Nat.le_refl _)
      have k2 := k1.below b1 (Nat.le_refl _)
      have hb1 := nx hb0 b1
      go_wp2_with fail
      refine (CS.out _ h2).mono ?_; rintro e w2 ⟨rfl, b2⟩
      have k3 := k2.below b2 (Nat.le_refl _)
      have hb2 := nx hb1 b2
      go_wp2_with fail
      refine (CI.out _ k3).mono ?_; rintro e w3 ⟨rfl, b3⟩
      go_wp2_with fail
      go_ret
      exact ⟨rfl, nx hb2 b3⟩

set_option maxHeartbeats 1600000 in
theorem img_spec (a0 : Option Addr) (c0 : Nat) (os : List Int) (a1 : Option Addr) (c1 : Nat) (f : List Int) (a : Int) (w : World) (h0 : Ints w a0 c0 os) (k0 : Ints w a1 c1 f) (hl : os.length ≤ 2000000) (hlf : f.length ≤ 2000000) :
    Calls Try.prog 31 #[.agg #[.slice a0 os.length c0], .slice a1 f.length c1, .int .i64 a] w fun e w' => e = .returned (.int .i64 (imgV os f a)) ∧ Below w.heap.size w w' := by
  have hb0 := (Below.refl w.heap.size w).alloc (Nat.le_refl _) (.cells #[.slice a0 os.length c0] 26)
  have h1 := h0.below hb0 (Nat.le_refl _)
  have k1 := k0.below hb0 (Nat.le_refl _)
  have C := Lib.hid (fun w h h' => aut_spec a0 c0 os a1 c1 f w h h' hl hlf)
  have CS := Lib.hid (fun w h => isSet_spec a0 c0 os a w h hl)
  cases hA : autB os f with
  | false =>
    have e : imgV os f a = -1 := by simp [imgV, hA]
    rw [e]
    rw [hA] at C
    clear hA e
    go_enter Try.func31, Try.ntmps31
    go_wp2_with fail
    refine (C.out _ h1 k1).mono ?_; rintro e w1 ⟨rfl, b1⟩
    go_wp2_with fail
    go_ret
    exact ⟨rfl, nx hb0 b1⟩
  | true =>
    rw [hA] at C
    cases hS : setB os a with
    | false =>
      have e : imgV os f a = -1 := by simp [imgV, hS]
      rw [e]
      rw [hS] at CS
      clear hA hS e
      go_enter Try.func31, Try.ntmps31
      go_wp2_with fail
      refine (C.out _ h1 k1).mono ?_; rintro e w1 ⟨rfl, b1⟩
      have q1 := box_cell b1 (by simp)
      have h2 := h1.below b1 (Nat.le_refl _)
      have hb1 := nx hb0 b1
      go_wp2_with fail
      refine (CS.out _ h2).mono ?_; rintro e w2 ⟨rfl, b2⟩
      go_wp2_with fail
      go_ret
      exact ⟨rfl, nx hb1 b2⟩
    | true =>
      obtain ⟨hg, hfl, hsm, -, -⟩ := aut_parts hA
      obtain ⟨-, m, rfl, hm⟩ := setB_parts hS
      obtain ⟨g2, g3, g4, g5, g6⟩ := grp_gn hg
      have e : imgV os f (m : Int) = (imS f m : Int) := by simp [imgV, hA, hS]
      rw [e]
      rw [hS] at CS
      have CI := Lib.hid (fun w h => l27Image_any a1 c1 f m w h hsm (by rw [hfl, ← g6]; exact hm))
      obtain ⟨v, hv⟩ : ∃ v, v = imS f m := ⟨_, rfl⟩
      rw [← hv] at CI ⊢
      clear hA hS e hg hfl hsm hm g2 g3 g4 g5 g6 hv
      go_enter Try.func31, Try.ntmps31
      go_wp2_with fail
      refine (C.out _ h1 k1).mono ?_; rintro e w1 ⟨rfl, b1⟩
      have q1 := box_cell b1 (by simp)
      have h2 := h1.below b1 (Nat.le_refl _)
      have k2 := k1.below b1 (Nat.le_refl _)
      have hb1 := nx hb0 b1
      go_wp2_with fail
      refine (CS.out _ h2).mono ?_; rintro e w2 ⟨rfl, b2⟩
      have k3 := k2.below b2 (Nat.le_refl _)
      have hb2 := nx hb1 b2
      go_wp2_with fail
      refine (CI.out _ k3).mono ?_; rintro e w3 ⟨rfl, b3⟩
      go_wp2_with fail
      go_ret
      exact ⟨rfl, nx hb2 b3⟩
end Go.Proofs.Ytokpgbpdmfibjaa
