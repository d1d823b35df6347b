/-
Contracts of FullSet, of the sets without what another one has, and of both IsCompleteSumFrees. Conditions: lengths at most 2000000.
-/
import Derived.Test.YtbidkjhgodkamaaSum
import Derived.Test.YtbidkjhgodkamaaCon
import Derived.Deep.RegionWith
namespace Go.Proofs.Ytbidkjhgodkamaa
open Go.RowKit Go.ChangeShapes
set_option linter.unusedSimpArgs false

/-- a without the bits of b. -/
def minusS (a b : Nat) : Nat := a &&& (18446744073709551615 - b)
theorem andNot_nat (a b : Nat) (ha : a < 9223372036854775808) (hb : b < 9223372036854775808) : bits .andNot .i64 (a : Int) (b : Int) = (minusS a b : Int) := by
  have h1 : a % 2 ^ 64 = a := Nat.mod_eq_of_lt (by omega)
  have h2 : b % 2 ^ 64 = b := Nat.mod_eq_of_lt (by omega)
  have h3 : minusS a b ≤ a := Nat.and_le_left
  have h4 : bits .andNot .i64 (a : Int) (b : Int) = IntKind.i64.wrap ((minusS a b : Nat) : Int) := by
    show IntKind.i64.wrap ((BitVec.ofInt 64 (a : Int) &&& ~~~ BitVec.ofInt 64 (b : Int)).toNat : Int) = _
    rw [BitVec.ofInt_natCast, BitVec.ofInt_natCast, BitVec.toNat_and, BitVec.toNat_not, BitVec.toNat_ofNat, BitVec.toNat_ofNat, h1, h2]
    rfl
  rw [h4]
  exact wraps_i64 _ (by omega) (by omega)
theorem minusS_bit (a b i : Nat) (ha : a < 9223372036854775808) (hb : b < 9223372036854775808) : (minusS a b).testBit i = (a.testBit i && !b.testBit i) := by
  unfold minusS
  rw [Nat.testBit_and]
  have e : 18446744073709551615 - b = 2 ^ 64 - (b + 1) := by omega
  rw [e, Nat.testBit_two_pow_sub_succ (by omega)]
  by_cases h : i < 64
  · simp [h]
  · have : a.testBit i = false := Nat.testBit_lt_two_pow (Nat.lt_of_lt_of_le ha (by
      have := Nat.pow_le_pow_right (n := 2) (by decide) (show 63 ≤ i by omega)
      simpa using this))
    simp [this]
theorem full_minus (n a : Nat) (hn : n ≤ 24) (ha : a < 2 ^ n) : minusS (2 ^ n - 1) a = 2 ^ n - 1 - a := by
  have hp := pow40 (show n ≤ 40 by omega)
  apply Nat.eq_of_testBit_eq
  intro i
  rw [minusS_bit _ _ _ (by omega) (by omega), Nat.testBit_two_pow_sub_one, show 2 ^ n - 1 - a = 2 ^ n - (a + 1) by omega, Nat.testBit_two_pow_sub_succ ha]

set_option maxHeartbeats 800000 in
theorem fullSet_any (a0 : Option Addr) (c0 : Nat) (os : List Int) (w : World) (h0 : Ints w a0 c0 os) (hl : os.length ≤ 2000000) (hg0 : grpB os = true) :
    Calls Try.prog 188 #[.agg #[.slice a0 os.length c0]] w fun e w' => e = .returned (.int .i64 ((setT os - 1 : Nat) : Int)) ∧ Below w.heap.size w w' := by
  have hb0 := (Below.refl w.heap.size w).alloc (Nat.le_refl _) (.cells #[.slice a0 os.length c0] 26)
  have h1 := h0.below hb0 (Nat.le_refl _)
  have C := Lib.hid (fun w h => isGroup_impl a0 c0 os w h hl)
  have C2 := Lib.hid (fun w h => orderOf_impl a0 c0 os w h hl)
  have e : ordV os = gord os := by simp [ordV, hg0]
  have hT := setT_bd hg0
  obtain ⟨m, T, hm, hTT, m1, m2, hp, hw⟩ := setT_nat hg0
  rw [hg0] at C
  rw [e, hm] at C2
  rw [hTT] at hT ⊢
  have hT1 : ((T - 1 : Nat) : Int) = (T : Int) - 1 := by omega
  rw [hT1]
  clear hm hg0 e hTT hp hT1
  go_enter Try.func188, Try.ntmps188
  go_wp2_with fail
  refine (C.out _ h1).mono ?_; rintro e w1 ⟨rfl, b1⟩
  have hbox := box_cell b1 (by simp)
  have h2 := h1.below b1 (Nat.le_refl _)
  go_wp2_with fail
  refine (C2.out _ h2).mono ?_; rintro e w2 ⟨rfl, b2⟩
  go_wp2_with fail
  go_ret
  exact ⟨rfl, nx (nx hb0 b1) b2⟩

def csfB (os : List Int) (a : Int) : Bool := setB os a && (sumS os a.toNat a.toNat == setT os - 1 - a.toNat)

set_option maxHeartbeats 1600000 in
theorem csf_spec (a0 : Option Addr) (c0 : Nat) (os : List Int) (a : Int) (w : World) (h0 : Ints w a0 c0 os) (hl : os.length ≤ 2000000) :
    Calls Try.prog 30 #[.agg #[.slice a0 os.length c0], .int .i64 a] w fun e w' => e = .returned (.bool (csfB os a)) ∧ Below w.heap.size w w' := by
  have hb0 := (Below.refl w.heap.size w).alloc (Nat.le_refl _) (.cells #[.slice a0 os.length c0] 26)
  have h1 := h0.below hb0 (Nat.le_refl _)
  have C := Lib.hid (fun w h => isSet_spec a0 c0 os a w h hl)
  have hbox : (w.alloc (.cells #[.slice a0 os.length c0] 26)).cell? ⟨w.heap.size, 0, none⟩ = some (.slice a0 os.length c0) := by simp [go_sem]
  have zz : w.heap.size < (w.alloc (.cells #[.slice a0 os.length c0] 26)).heap.size := by simp
  cases hs : setB os a with
  | false =>
    have e : csfB os a = false := by simp [csfB, hs]
    rw [e]
    rw [hs] at C
    clear hs e
    go_enter Try.func30, Try.ntmps30
    go_wp2_with fail
    refine wp_region_held_drew (S := fun w' => w'.cell? ⟨w.heap.size, 0, none⟩ = some (.slice a0 os.length c0)) (by kernel_rfl) hbox (fun hHeld => ?_)
    refine wpAnyH_take (i := 0) (v := ?_) rfl (by kernel_rfl) (by kernel_rfl) (by kernel_rfl) (fun _ _ _ h => h) (Or.inl ⟨by rfl, ?_⟩) (by assumption) ?_
    rotate_left
    · intro w hSw
      (try dsimp only at hSw)
      go_simp
      try with_reducible rfl
    (try simp only [Act.put, List.setIfInBounds_toArray, List.set_cons_zero, List.set_cons_succ])
    refine wpAnyH_take (i := 1) (v := ?_) rfl (by kernel_rfl) (by kernel_rfl) (by kernel_rfl) (fun _ _ _ h => h) (Or.inl ⟨by rfl, ?_⟩) (by assumption) ?_
    rotate_left
    · intro w hSw
      (try dsimp only at hSw)
      go_simp
      try with_reducible rfl
    (try simp only [Act.put, List.setIfInBounds_toArray, List.set_cons_zero, List.set_cons_succ])
    refine wpAnyH_ready (rs := [2]) (by kernel_rfl) (by simp) ?_
    refine AllReadyH.cons rfl (fun K hK => ?_) AllReadyH.nil
    go_simp
    go_at_call 130
    refine (C.out _ h1.drew).mono ?_
    rintro e w1 ⟨rfl, b1⟩
    refine hK.out _ _ ((b1.cell (p := ⟨w.heap.size, 0, none⟩) zz).trans hbox) (fun hHeld => ?_)
    clear hK K
    (try simp only [Act.put, List.setIfInBounds_toArray, List.set_cons_zero, List.set_cons_succ])
    refine wpAnyH_take (i := 3) (v := ?_) rfl (by kernel_rfl) (by kernel_rfl) (by kernel_rfl) (fun _ _ _ h => h) (Or.inl ⟨by rfl, ?_⟩) (by assumption) ?_
    rotate_left
    · intro w hSw
      (try dsimp only at hSw)
      go_simp
      try with_reducible rfl
    (try simp only [Act.put, List.setIfInBounds_toArray, List.set_cons_zero, List.set_cons_succ])
    refine wpAnyH_take (i := 4) (v := undef) rfl (by kernel_rfl) (by kernel_rfl) (by kernel_rfl) (fun _ _ _ h => h) (Or.inr ⟨by kernel_rfl, rfl⟩) (by assumption) ?_
    (try simp only [Act.put, List.setIfInBounds_toArray, List.set_cons_zero, List.set_cons_succ])
    refine wpAnyH_take (i := 5) (v := undef) rfl (by kernel_rfl) (by kernel_rfl) (by kernel_rfl) (fun _ _ _ h => h) (Or.inr ⟨by kernel_rfl, rfl⟩) (by assumption) ?_
    (try simp only [Act.put, List.setIfInBounds_toArray, List.set_cons_zero, List.set_cons_succ])
    refine wpAnyH_take (i := 6) (v := undef) rfl (by kernel_rfl) (by kernel_rfl) (by kernel_rfl) (fun _ _ _ h => h) (Or.inr ⟨by kernel_rfl, rfl⟩) (by assumption) ?_
    (try simp only [Act.put, List.setIfInBounds_toArray, List.set_cons_zero, List.set_cons_succ])
    refine wpAnyH_take (i := 7) (v := undef) rfl (by kernel_rfl) (by kernel_rfl) (by kernel_rfl) (fun _ _ _ h => h) (Or.inr ⟨by kernel_rfl, rfl⟩) (by assumption) ?_
    (try simp only [Act.put, List.setIfInBounds_toArray, List.set_cons_zero, List.set_cons_succ])
    refine wpAnyH_take (i := 8) (v := undef) rfl (by kernel_rfl) (by kernel_rfl) (by kernel_rfl) (fun _ _ _ h => h) (Or.inr ⟨by kernel_rfl, rfl⟩) (by assumption) ?_
    (try simp only [Act.put, List.setIfInBounds_toArray, List.set_cons_zero, List.set_cons_succ])
    refine wpAnyH_take (i := 9) (v := undef) rfl (by kernel_rfl) (by kernel_rfl) (by kernel_rfl) (fun _ _ _ h => h) (Or.inr ⟨by kernel_rfl, rfl⟩) (by assumption) ?_
    (try simp only [Act.put, List.setIfInBounds_toArray, List.set_cons_zero, List.set_cons_succ])
    refine wpAnyH_take (i := 10) (v := undef) rfl (by kernel_rfl) (by kernel_rfl) (by kernel_rfl) (fun _ _ _ h => h) (Or.inr ⟨by kernel_rfl, rfl⟩) (by assumption) ?_
    (try simp only [Act.put, List.setIfInBounds_toArray, List.set_cons_zero, List.set_cons_succ])
    refine wpAnyH_take (i := 11) (v := undef) rfl (by kernel_rfl) (by kernel_rfl) (by kernel_rfl) (fun _ _ _ h => h) (Or.inr ⟨by kernel_rfl, rfl⟩) (by assumption) ?_
    (try simp only [Act.put, List.setIfInBounds_toArray, List.set_cons_zero, List.set_cons_succ])
    refine wpAnyH_take (i := 12) (v := undef) rfl (by kernel_rfl) (by kernel_rfl) (by kernel_rfl) (fun _ _ _ h => h) (Or.inr ⟨by kernel_rfl, rfl⟩) (by assumption) ?_
    (try simp only [Act.put, List.setIfInBounds_toArray, List.set_cons_zero, List.set_cons_succ])
    refine wpAnyH_take (i := 13) (v := undef) rfl (by kernel_rfl) (by kernel_rfl) (by kernel_rfl) (fun _ _ _ h => h) (Or.inr ⟨by kernel_rfl, rfl⟩) (by assumption) ?_
    (try simp only [Act.put, List.setIfInBounds_toArray, List.set_cons_zero, List.set_cons_succ])
    refine wpAnyH_take (i := 14) (v := undef) rfl (by kernel_rfl) (by kernel_rfl) (by kernel_rfl) (fun _ _ _ h => h) (Or.inr ⟨by kernel_rfl, rfl⟩) (by assumption) ?_
    (try simp only [Act.put, List.setIfInBounds_toArray, List.set_cons_zero, List.set_cons_succ])
    refine wpAnyH_ready (rs := [15]) (by kernel_rfl) (by simp) ?_
    refine AllReadyH.cons rfl (fun K hK => ?_) AllReadyH.nil
    go_simp
    refine hK.out _ _ (by assumption) (fun _ => ?_)
    clear hK K
    (try simp only [Act.put, List.setIfInBounds_toArray, List.set_cons_zero, List.set_cons_succ])
    refine wpAnyH_ready (rs := [16]) (by kernel_rfl) (by simp) ?_
    refine AllReadyH.cons rfl (fun K hK => ?_) AllReadyH.nil
    go_simp
    refine hK.out _ _ (by assumption) (fun _ => ?_)
    clear hK K
    (try simp only [Act.put, List.setIfInBounds_toArray, List.set_cons_zero, List.set_cons_succ])
    refine wpAnyH_done (by kernel_rfl) ?_ _
    go_wp2_with fail
    go_ret
    exact ⟨rfl, nx hb0 (below_undrew b1)⟩
  | true =>
    obtain ⟨g, m, rfl, hm⟩ := setB_parts hs
    have hT := setT_bd g
    have e : csfB os (m : Int) = (sumS os m m == setT os - 1 - m) := by simp [csfB, hs]
    rw [e]
    have C2 := Lib.hid (fun w h => l4Sum_any a0 c0 os m m w h g (by omega) (by omega))
    have C3 := Lib.hid (fun w h => l2Order_any a0 c0 os w h g)
    have hsl : sumS os m m < 16777216 := by simpa using sumS_lt g m m
    obtain ⟨n, T, hn, hTT, m1, m2, hp, hw⟩ := setT_nat g
    rw [hs] at C
    rw [hn] at C3
    rw [hTT] at hT hm ⊢
    obtain ⟨r, hr⟩ : ∃ r, r = sumS os m m := ⟨_, rfl⟩
    rw [← hr] at C2 hsl ⊢
    have hq : ((r : Int) == IntKind.i64.wrap (IntKind.i64.wrap ((T : Int) - 1) - (m : Int))) = (r == T - 1 - m) := by
      rw [wrap_in (n := (T : Int) - 1) (by omega) (by omega), wrap_in (by omega) (by omega), Bool.eq_iff_iff, beq_iff_eq, beq_iff_eq]; omega
    obtain ⟨q, hqq⟩ : ∃ q, q = (r == T - 1 - m) := ⟨_, rfl⟩
    rw [← hqq] at hq ⊢
    clear hs e hr g hn hTT hp hqq
    go_enter Try.func30, Try.ntmps30
    go_wp2_with fail
    go_region_held3 (fun w' => w'.cell? ⟨w.heap.size, 0, none⟩ = some (.slice a0 os.length c0)) (assumption) (first
      | (go_at_call 130; refine (C.out _ h1.drew).mono ?_; rintro e w1 ⟨rfl, b1⟩; have h2 := h1.below (below_undrew b1) (Nat.le_refl _); have p1 := (b1.cell (p := ⟨w.heap.size, 0, none⟩) zz).trans hbox; have z1 := Nat.lt_of_lt_of_le zz b1.size)
      | (go_at_call 191; refine (C2.out _ h2).mono ?_; rintro e w2 ⟨rfl, b2⟩; have h3 := h2.below b2 (Nat.le_refl _); have p2 := (b2.cell (p := ⟨w.heap.size, 0, none⟩) z1).trans p1; have z2 := Nat.lt_of_lt_of_le z1 b2.size)
      | (go_at_call 174; refine (C3.out _ h3).mono ?_; rintro e w3 ⟨rfl, b3⟩; have p3 := (b3.cell (p := ⟨w.heap.size, 0, none⟩) z2).trans p2))
    go_wp2_with fail
    go_ret
    exact ⟨ret_bool (by first | exact hq | rfl), nx (nx (nx hb0 (below_undrew b1)) b2) b3⟩

set_option maxHeartbeats 1600000 in
theorem csf_impl (a0 : Option Addr) (c0 : Nat) (os : List Int) (a : Int) (w : World) (h0 : Ints w a0 c0 os) (hl : os.length ≤ 2000000) :
    Calls Try.prog 26 #[.agg #[.slice a0 os.length c0], .int .i64 a] w fun e w' => e = .returned (.bool (csfB os a)) ∧ Below w.heap.size w w' := by
  have hb0 := (Below.refl w.heap.size w).alloc (Nat.le_refl _) (.cells #[.slice a0 os.length c0] 26)
  have h1 := h0.below hb0 (Nat.le_refl _)
  have C := Lib.hid (fun w h => isSet_impl a0 c0 os a w h hl)
  have hbox : (w.alloc (.cells #[.slice a0 os.length c0] 26)).cell? ⟨w.heap.size, 0, none⟩ = some (.slice a0 os.length c0) := by simp [go_sem]
  have zz : w.heap.size < (w.alloc (.cells #[.slice a0 os.length c0] 26)).heap.size := by simp
  cases hs : setB os a with
  | false =>
    have e : csfB os a = false := by simp [csfB, hs]
    rw [e]
    rw [hs] at C
    clear hs e
    go_enter Try.func26, Try.ntmps26
    go_wp2_with fail
    refine wp_region_held_drew (S := fun w' => w'.cell? ⟨w.heap.size, 0, none⟩ = some (.slice a0 os.length c0)) (by kernel_rfl) hbox (fun hHeld => ?_)
    refine wpAnyH_take (i := 0) (v := ?_) rfl (by kernel_rfl) (by kernel_rfl) (by kernel_rfl) (fun _ _ _ h => h) (Or.inl ⟨by rfl, ?_⟩) (by assumption) ?_
    rotate_left
    · intro w hSw
      (try dsimp only at hSw)
      go_simp
      try with_reducible rfl
    (try simp only [Act.put, List.setIfInBounds_toArray, List.set_cons_zero, List.set_cons_succ])
    refine wpAnyH_take (i := 1) (v := ?_) rfl (by kernel_rfl) (by kernel_rfl) (by kernel_rfl) (fun _ _ _ h => h) (Or.inl ⟨by rfl, ?_⟩) (by assumption) ?_
    rotate_left
    · intro w hSw
      (try dsimp only at hSw)
      go_simp
      try with_reducible rfl
    (try simp only [Act.put, List.setIfInBounds_toArray, List.set_cons_zero, List.set_cons_succ])
    refine wpAnyH_ready (rs := [2]) (by kernel_rfl) (by simp) ?_
    refine AllReadyH.cons rfl (fun K hK => ?_) AllReadyH.nil
    go_simp
    go_at_call 176
    refine (C.out _ h1.drew).mono ?_
    rintro e w1 ⟨rfl, b1⟩
    refine hK.out _ _ ((b1.cell (p := ⟨w.heap.size, 0, none⟩) zz).trans hbox) (fun hHeld => ?_)
    clear hK K
    (try simp only [Act.put, List.setIfInBounds_toArray, List.set_cons_zero, List.set_cons_succ])
    refine wpAnyH_take (i := 3) (v := ?_) rfl (by kernel_rfl) (by kernel_rfl) (by kernel_rfl) (fun _ _ _ h => h) (Or.inl ⟨by rfl, ?_⟩) (by assumption) ?_
    rotate_left
    · intro w hSw
      (try dsimp only at hSw)
      go_simp
      try with_reducible rfl
    (try simp only [Act.put, List.setIfInBounds_toArray, List.set_cons_zero, List.set_cons_succ])
    refine wpAnyH_take (i := 4) (v := undef) rfl (by kernel_rfl) (by kernel_rfl) (by kernel_rfl) (fun _ _ _ h => h) (Or.inr ⟨by kernel_rfl, rfl⟩) (by assumption) ?_
    (try simp only [Act.put, List.setIfInBounds_toArray, List.set_cons_zero, List.set_cons_succ])
    refine wpAnyH_take (i := 5) (v := undef) rfl (by kernel_rfl) (by kernel_rfl) (by kernel_rfl) (fun _ _ _ h => h) (Or.inr ⟨by kernel_rfl, rfl⟩) (by assumption) ?_
    (try simp only [Act.put, List.setIfInBounds_toArray, List.set_cons_zero, List.set_cons_succ])
    refine wpAnyH_take (i := 6) (v := undef) rfl (by kernel_rfl) (by kernel_rfl) (by kernel_rfl) (fun _ _ _ h => h) (Or.inr ⟨by kernel_rfl, rfl⟩) (by assumption) ?_
    (try simp only [Act.put, List.setIfInBounds_toArray, List.set_cons_zero, List.set_cons_succ])
    refine wpAnyH_take (i := 7) (v := undef) rfl (by kernel_rfl) (by kernel_rfl) (by kernel_rfl) (fun _ _ _ h => h) (Or.inr ⟨by kernel_rfl, rfl⟩) (by assumption) ?_
    (try simp only [Act.put, List.setIfInBounds_toArray, List.set_cons_zero, List.set_cons_succ])
    refine wpAnyH_take (i := 8) (v := undef) rfl (by kernel_rfl) (by kernel_rfl) (by kernel_rfl) (fun _ _ _ h => h) (Or.inr ⟨by kernel_rfl, rfl⟩) (by assumption) ?_
    (try simp only [Act.put, List.setIfInBounds_toArray, List.set_cons_zero, List.set_cons_succ])
    refine wpAnyH_take (i := 9) (v := undef) rfl (by kernel_rfl) (by kernel_rfl) (by kernel_rfl) (fun _ _ _ h => h) (Or.inr ⟨by kernel_rfl, rfl⟩) (by assumption) ?_
    (try simp only [Act.put, List.setIfInBounds_toArray, List.set_cons_zero, List.set_cons_succ])
    refine wpAnyH_take (i := 10) (v := undef) rfl (by kernel_rfl) (by kernel_rfl) (by kernel_rfl) (fun _ _ _ h => h) (Or.inr ⟨by kernel_rfl, rfl⟩) (by assumption) ?_
    (try simp only [Act.put, List.setIfInBounds_toArray, List.set_cons_zero, List.set_cons_succ])
    refine wpAnyH_take (i := 11) (v := undef) rfl (by kernel_rfl) (by kernel_rfl) (by kernel_rfl) (fun _ _ _ h => h) (Or.inr ⟨by kernel_rfl, rfl⟩) (by assumption) ?_
    (try simp only [Act.put, List.setIfInBounds_toArray, List.set_cons_zero, List.set_cons_succ])
    refine wpAnyH_take (i := 12) (v := undef) rfl (by kernel_rfl) (by kernel_rfl) (by kernel_rfl) (fun _ _ _ h => h) (Or.inr ⟨by kernel_rfl, rfl⟩) (by assumption) ?_
    (try simp only [Act.put, List.setIfInBounds_toArray, List.set_cons_zero, List.set_cons_succ])
    refine wpAnyH_ready (rs := [13]) (by kernel_rfl) (by simp) ?_
    refine AllReadyH.cons rfl (fun K hK => ?_) AllReadyH.nil
    go_simp
    refine hK.out _ _ (by assumption) (fun _ => ?_)
    clear hK K
    (try simp only [Act.put, List.setIfInBounds_toArray, List.set_cons_zero, List.set_cons_succ])
    refine wpAnyH_ready (rs := [14]) (by kernel_rfl) (by simp) ?_
    refine AllReadyH.cons rfl (fun K hK => ?_) AllReadyH.nil
    go_simp
    refine hK.out _ _ (by assumption) (fun _ => ?_)
    clear hK K
    (try simp only [Act.put, List.setIfInBounds_toArray, List.set_cons_zero, List.set_cons_succ])
    refine wpAnyH_done (by kernel_rfl) ?_ _
    go_wp2_with fail
    go_ret
    exact ⟨rfl, nx hb0 (below_undrew b1)⟩
  | true =>
    obtain ⟨g, m, rfl, hm⟩ := setB_parts hs
    have hT := setT_bd g
    have e : csfB os (m : Int) = (sumS os m m == setT os - 1 - m) := by simp [csfB, hs]
    rw [e]
    have C2 := Lib.hid (fun w h => sum_any a0 c0 os m m w h g (by omega) (by omega))
    have C3 := Lib.hid (fun w h => fullSet_any a0 c0 os w h hl g)
    have hsl : sumS os m m < 16777216 := by simpa using sumS_lt g m m
    obtain ⟨n, T, hn, hTT, m1, m2, hp, hw⟩ := setT_nat g
    rw [hs] at C
    rw [hTT] at C3 hT hm ⊢
    have hmin : bits .andNot .i64 ((T - 1 : Nat) : Int) (m : Int) = ((T - 1 - m : Nat) : Int) := by
      rw [andNot_nat _ _ (by omega) (by omega), hp, full_minus n m m2 (by rw [← hp]; exact hm)]
    obtain ⟨r, hr⟩ : ∃ r, r = sumS os m m := ⟨_, rfl⟩
    rw [← hr] at C2 hsl ⊢
    obtain ⟨F, hF⟩ : ∃ F, F = T - 1 := ⟨_, rfl⟩
    rw [← hF] at hmin C3 ⊢
    obtain ⟨D, hD⟩ : ∃ D, D = F - m := ⟨_, rfl⟩
    rw [← hD] at hmin ⊢
    have hFb : F ≤ 16777216 := by omega
    have hq : ((r : Int) == (D : Int)) = (r == D) := nat_beq r D
    obtain ⟨q, hqq⟩ : ∃ q, q = (r == D) := ⟨_, rfl⟩
    rw [← hqq] at hq ⊢
    clear hs e hr g hn hTT hp hqq hF hD hw
    go_enter Try.func26, Try.ntmps26
    go_wp2_with fail
    go_region_held3 (fun w' => w'.cell? ⟨w.heap.size, 0, none⟩ = some (.slice a0 os.length c0)) (assumption) (first
      | (go_at_call 176; refine (C.out _ h1.drew).mono ?_; rintro e w1 ⟨rfl, b1⟩; have h2 := h1.below (below_undrew b1) (Nat.le_refl _); have p1 := (b1.cell (p := ⟨w.heap.size, 0, none⟩) zz).trans hbox; have z1 := Nat.lt_of_lt_of_le zz b1.size)
      | (go_at_call 177; refine (C2.out _ h2).mono ?_; rintro e w2 ⟨rfl, b2⟩; have h3 := h2.below b2 (Nat.le_refl _); have p2 := (b2.cell (p := ⟨w.heap.size, 0, none⟩) z1).trans p1; have z2 := Nat.lt_of_lt_of_le z1 b2.size)
      | (go_at_call 188; refine (C3.out _ h3).mono ?_; rintro e w3 ⟨rfl, b3⟩; have p3 := (b3.cell (p := ⟨w.heap.size, 0, none⟩) z2).trans p2))
    go_wp2_with fail
    go_ret
    exact ⟨ret_bool (by first | exact hq | rfl), nx (nx (nx hb0 (below_undrew b1)) b2) b3⟩
end Go.Proofs.Ytbidkjhgodkamaa
