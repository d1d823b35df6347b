/-
Contracts of both sides' SetOf and IsAutomorphism. Conditions: lengths at most 2000000.
-/
import Derived.Test.YtokpgbpdmfibjaaPop
import Derived.Test.YtokpgbpdmfibjaaAlg
import Derived.Test.YtokpgbpdmfibjaaTri
import Derived.Test.YtokpgbpdmfibjaaSrch
import Derived.Deep.RegionHeld3
import Derived.Deep.RegionWith
import Derived.Deep.QuietTactic
import Derived.BigQuiet
namespace Go.Proofs.Ytokpgbpdmfibjaa
open Go.RowKit Go.ChangeShapes
set_option linter.unusedVariables false
set_option linter.unusedSimpArgs false

theorem or_add : ∀ {x a : Nat}, a.testBit x = false → a ||| 2 ^ x = a + 2 ^ x
  | 0, a, h => by
    rw [Nat.testBit_zero] at h
    have h0 : a % 2 = 0 := by
      rcases Nat.mod_two_eq_zero_or_one a with e | e
      · exact e
      · rw [e] at h; simp at h
    have e1 : (a ||| 1) / 2 = a / 2 := by rw [Nat.or_div_two]; simp
    have e2 : (a ||| 1) % 2 = 1 := Nat.or_mod_two_eq_one.2 (.inr rfl)
    show a ||| 1 = a + 1
    omega
  | x + 1, a, h => by
    rw [Nat.testBit_succ] at h
    have ih := or_add h
    have e0 : 2 ^ (x + 1) / 2 = 2 ^ x := by rw [Nat.pow_succ]; omega
    have e1 : (a ||| 2 ^ (x + 1)) / 2 = a / 2 ||| 2 ^ x := by rw [Nat.or_div_two, e0]
    have e3 : 2 ^ (x + 1) % 2 = 0 := by rw [Nat.pow_succ]; omega
    have e2 : (a ||| 2 ^ (x + 1)) % 2 = a % 2 := by
      rcases Nat.mod_two_eq_zero_or_one a with e | e
      · rcases Nat.mod_two_eq_zero_or_one (a ||| 2 ^ (x + 1)) with e4 | e4
        · omega
        · rcases Nat.or_mod_two_eq_one.1 e4 with e5 | e5 <;> omega
      · rw [e]; exact Nat.or_mod_two_eq_one.2 (.inl e)
    rw [ih] at e1
    rw [Nat.pow_succ] at *
    omega

/-- The set with some elements: none where one is no element or comes twice. -/
def soF (n : Nat) : List Int → Nat → Option Nat
  | [], a => some a
  | x :: t, a => if (0 ≤ x ∧ x < (n : Int)) ∧ a.testBit x.toNat = false then soF n t (a ||| 2 ^ x.toNat) else none
theorem soF_drop {n k a : Nat} {l : List Int} (h : k < l.length) : soF n (l.drop k) a = if (0 ≤ l[k] ∧ l[k] < (n : Int)) ∧ a.testBit l[k].toNat = false then soF n (l.drop (k + 1)) (a ||| 2 ^ l[k].toNat) else none := by
  rw [← List.getElem_cons_drop h]
  rfl
theorem soF_mem {n : Nat} : ∀ {l : List Int} {a b : Nat}, soF n l a = some b → ∀ x ∈ l, 0 ≤ x ∧ x < (n : Int)
  | [], _, _, _, x, hx => by simp at hx
  | y :: t, a, b, h, x, hx => by
    unfold soF at h
    split at h
    · rename_i hc
      rcases List.mem_cons.1 hx with rfl | hx
      · exact hc.1
      · exact soF_mem h x hx
    · cases h
theorem soF_popc {n : Nat} (hn : n ≤ 24) : ∀ {l : List Int} {a b : Nat}, soF n l a = some b → popc b = popc a + l.length
  | [], _, _, h => by cases h; simp
  | y :: t, a, b, h => by
    unfold soF at h
    split at h
    · rename_i hc
      rw [soF_popc hn h, popc_or hc.2 (by omega), List.length_cons]
      omega
    · cases h
theorem soF_bit {n : Nat} : ∀ {l : List Int} {a b : Nat}, soF n l a = some b → ∀ i, b.testBit i = true ↔ a.testBit i = true ∨ (i : Int) ∈ l
  | [], _, _, h, i => by cases h; simp
  | y :: t, a, b, h, i => by
    unfold soF at h
    split at h
    · rename_i hc
      rw [soF_bit h i, Nat.testBit_or, Nat.testBit_two_pow, Bool.or_eq_true, decide_eq_true_eq, List.mem_cons, or_assoc]
      constructor
      · rintro (h1 | h1 | h1)
        · exact .inl h1
        · exact .inr (.inl (by omega))
        · exact .inr (.inr h1)
      · rintro (h1 | h1 | h1)
        · exact .inl h1
        · exact .inr (.inl (by omega))
        · exact .inr (.inr h1)
    · cases h
theorem soF_lt {n : Nat} (hn : n ≤ 24) : ∀ {l : List Int} {a b : Nat}, soF n l a = some b → a < 2 ^ n → b < 2 ^ n
  | [], _, _, h, ha => by cases h; exact ha
  | y :: t, a, b, h, ha => by
    unfold soF at h
    split at h
    · rename_i hc
      exact soF_lt hn h (Nat.or_lt_two_pow ha (Nat.pow_lt_pow_right (by decide) (by omega)))
    · cases h
/-- The order, 0 where it is no group. -/
def ordN (os : List Int) : Nat := (ordV os).toNat
theorem ordN_eq (os : List Int) : (ordN os : Int) = ordV os ∧ ordN os ≤ 24 := by
  unfold ordN ordV
  cases hg : grpB os with
  | false => simp
  | true =>
    obtain ⟨g1, g2, g3, g4⟩ := grp_parts hg
    simp; omega
theorem ordN_grp {os : List Int} (h : grpB os = true) : ordN os = gn os := by simp [ordN, ordV, h, gn]
theorem ordN_no {os : List Int} (h : grpB os = false) : ordN os = 0 := by simp [ordN, ordV, h]
def soV (os l : List Int) : Nat := (soF (ordN os) l 0).getD 0
def soB (os l : List Int) : Bool := (soF (ordN os) l 0).isSome && grpB os

set_option maxHeartbeats 800000 in
theorem has_any (a0 : Option Addr) (c0 : Nat) (os : List Int) (x : Int) (w : World) (h0 : Ints w a0 c0 os) (hl : os.length ≤ 2000000) :
    Calls Try.prog 125 #[.agg #[.slice a0 os.length c0], .int .i64 x] w fun e w' => e = .returned (.bool (decide (0 ≤ x ∧ x < (ordN os : Int)))) ∧ Below w.heap.size w w' := by
  have hb0 := (Below.refl w.heap.size w).alloc (Nat.le_refl _) (.cells #[.slice a0 os.length c0] 26)
  have h1 := h0.below hb0 (Nat.le_refl _)
  have C := Lib.hid (fun w h => orderOf_impl a0 c0 os w h hl)
  obtain ⟨e1, e2⟩ := ordN_eq os
  rw [← e1] at C
  obtain ⟨N, hN⟩ : ∃ N, N = ordN os := ⟨_, rfl⟩
  rw [← hN] at C e2 ⊢
  obtain ⟨r, hr⟩ : ∃ r, r = inB x 0 ((N : Int) - 1) := ⟨_, rfl⟩
  have he : decide (0 ≤ x ∧ x < (N : Int)) = r := by
    rw [hr, Bool.eq_iff_iff, decide_eq_true_eq, inB_true]; omega
  rw [he]
  have HR := Lib.hid hr.symm
  clear hr he hN e1
  go_enter Try.func125, Try.ntmps125
  go_wp2_with fail
  refine (C.out _ h1).mono ?_; rintro e w1 ⟨rfl, b1⟩
  go_wp2_with fail
  refine (within_is x 0 ((N : Int) - 1) r HR.out _).mono ?_; rintro e w' ⟨rfl, rfl⟩
  go_wp2_with fail
  go_ret
  exact ⟨rfl, nx hb0 b1⟩

set_option maxHeartbeats 800000 in
theorem l2Is_any (a0 : Option Addr) (c0 : Nat) (os : List Int) (x : Int) (w : World) (h0 : Ints w a0 c0 os) (hl : os.length ≤ 2000000) :
    Calls Try.prog 93 #[.agg #[.slice a0 os.length c0], .int .i64 x] w fun e w' => e = .returned (.bool (decide (0 ≤ x ∧ x < (ordN os : Int)))) ∧ Below w.heap.size w w' := by
  have hb0 := (Below.refl w.heap.size w).alloc (Nat.le_refl _) (.cells #[.slice a0 os.length c0] 26)
  have h1 := h0.below hb0 (Nat.le_refl _)
  have C := Lib.hid (fun w h => orderOf_spec a0 c0 os w h hl)
  obtain ⟨e1, e2⟩ := ordN_eq os
  rw [← e1] at C
  obtain ⟨N, hN⟩ : ∃ N, N = ordN os := ⟨_, rfl⟩
  rw [← hN] at C e2 ⊢
  by_cases hx : 0 ≤ x
  · have he : decide (0 ≤ x ∧ x < (N : Int)) = decide (x < (N : Int)) := by simp [hx]
    rw [he]
    have hxb : decide (0 ≤ x) = true := by simpa using hx
    clear he hN e1
    go_enter Try.func93, Try.ntmps93
    go_wp2_with fail
    refine (C.out _ h1).mono ?_; rintro e w1 ⟨rfl, b1⟩
    go_wp2_with fail
    go_ret
    exact ⟨rfl, nx hb0 b1⟩
  · have he : decide (0 ≤ x ∧ x < (N : Int)) = false := by simp; omega
    rw [he]
    have hxb : decide (0 ≤ x) = false := by simpa using hx
    clear he hN e1
    go_enter Try.func93, Try.ntmps93
    go_wp2_with fail
    go_ret
    exact ⟨rfl, hb0⟩

set_option maxRecDepth 20000 in
set_option maxHeartbeats 3200000 in
theorem setOf_impl (a0 : Option Addr) (c0 : Nat) (os : List Int) (a1 : Option Addr) (c1 : Nat) (l : List Int) (w : World) (h0 : Ints w a0 c0 os) (k0 : Ints w a1 c1 l) (hl : os.length ≤ 2000000) (hll : l.length ≤ 2000000) :
    Calls Try.prog 87 #[.agg #[.slice a0 os.length c0], .slice a1 l.length c1] w fun e w' => e = .returned (.tuple #[.int .i64 (soV os l : Int), .bool (soB os l)]) ∧ Below w.heap.size w w' := by
  have hb0 := (Below.refl w.heap.size w).alloc (Nat.le_refl _) (.cells #[.slice a0 os.length c0] 26)
  have CH := Lib.hid (fun x w h => has_any a0 c0 os x w h hl)
  have CG := Lib.hid (fun w h => isGroup_impl a0 c0 os w h hl)
  have h24 := (ordN_eq os).2
  obtain ⟨V, hV⟩ : ∃ V, V = soV os l := ⟨_, rfl⟩
  obtain ⟨B, hB⟩ : ∃ B, B = soB os l := ⟨_, rfl⟩
  rw [← hV, ← hB]
  unfold soV at hV
  unfold soB at hB
  obtain ⟨R, hR⟩ : ∃ R, R = soF (ordN os) l 0 := ⟨_, rfl⟩
  obtain ⟨G, hG⟩ : ∃ G, G = grpB os := ⟨_, rfl⟩
  obtain ⟨N, hN⟩ : ∃ N, N = ordN os := ⟨_, rfl⟩
  rw [← hN] at CH h24 hR
  rw [← hG] at CG
  have HV : Hid (V = R.getD 0 ∧ B = (R.isSome && G)) := Lib.hid ⟨by rw [hV, ← hN, hR], by rw [hB, ← hN, hR, hG]⟩
  have HR0 : Hid (soF N (l.drop 0) 0 = R) := Lib.hid (by rw [hR]; rfl)
  have HCS := Lib.hid k0.2.2.2.2
  clear hV hB hR hG hN
  go_enter Try.func87, Try.ntmps87
  go_wp2_with fail
  go_loopw [6, 11] (fun va vi wr => ∃ (k a : Nat), k ≤ l.length ∧ vi = .int .i64 (k : Int) ∧ va = .int .i64 (a : Int) ∧ a < 16777216 ∧ Hid (soF N (l.drop k) a = R) ∧ Below w.heap.size w wr ∧ wr.cell? ⟨w.heap.size, 0, none⟩ = some (.slice a0 os.length c0) ∧ w.heap.size < wr.heap.size) (fun _ x _ => (l.length - intOf x).toNat)
  case atStart => exact ⟨0, 0, by omega, rfl, rfl, by omega, HR0, hb0, by simp [go_sem], by simp⟩
  case round =>
    obtain ⟨k, a, hk, rfl, rfl, ha, HG, hbel, q3, z3⟩ := hrel
    have h3 := h0.below hbel (Nat.le_refl _)
    by_cases hlk : k < l.length
    · rcases HCS.out with hcs | ⟨b, off, rfl, hbB, hcell⟩
      · subst hcs; simp at hlk
      · have d1 := (hbel.cell (p := ⟨b, off + k, none⟩) hbB).trans (hcell k hlk)
        have hst := soF_drop (n := N) (a := a) hlk
        rw [HG.out] at hst
        have hwx := k0.2.2.2.1 _ (List.getElem_mem hlk)
        obtain ⟨x, hx⟩ : ∃ x, x = l[k] := ⟨_, rfl⟩
        rw [← hx] at d1 hst hwx
        have CX := Lib.hid (CH.out x wr h3)
        have CXd := Lib.hid (CH.out x wr.drew h3.drew)
        have hlk2 : (k : Int) < l.length := by omega
        have zb : b < wr.heap.size := Nat.lt_of_lt_of_le hbB hbel.size
        clear hcell hx
        by_cases hin : 0 ≤ x ∧ x < (N : Int)
        · obtain ⟨x, rfl⟩ := Int.eq_ofNat_of_zero_le hin.1
          have hx24 : x < 24 := by omega
          have e1 : decide (0 ≤ (x : Int) ∧ (x : Int) < (N : Int)) = true := by simpa using hin
          rw [e1] at CX CXd
          simp only [Int.toNat_natCast] at hst
          have CI := Lib.hid (in_any a x (by omega) (by omega))
          obtain ⟨T, hT, hT1, hw, hor⟩ := or_one a x ha hx24
          have hls : a ||| T < 16777216 := by
            have : a ||| T < 2 ^ 24 := Nat.or_lt_two_pow (by omega) (by rw [hT]; exact Nat.pow_lt_pow_right (by decide) hx24)
            simpa using this
          rw [← hT] at hst
          cases hbit : a.testBit x with
          | false =>
            rw [hbit] at CI
            rw [if_pos ⟨hin, hbit⟩] at hst
            have HST := Lib.hid hst.symm
            obtain ⟨a', ha'⟩ : ∃ a', a' = a ||| T := ⟨_, rfl⟩
            rw [← ha'] at hor hls HST
            clear hst hbit hin HG hT ha' e1
            go_wp2_with fail
            refine CX.out.mono ?_; rintro e w4 ⟨rfl, b4⟩
            have hb4 := nx hbel b4
            have q4 := (b4.cell (p := ⟨w.heap.size, 0, none⟩) z3).trans q3
            have z4 := Nat.lt_of_lt_of_le z3 b4.size
            clear b4 hbel q3 z3 h3
            go_wp2_with fail
            refine (CI.out _).mono ?_; rintro e w' ⟨rfl, rfl⟩
            go_wp2_with fail
            go_roundw
            case rel => exact ⟨k + 1, a', by omega, by go_num, rfl, hls, HST, hb4, q4, z4⟩
            case measure => simp [intOf]; omega
          | true =>
            rw [hbit] at CI
            rw [if_neg (fun h => by rw [hbit] at h; exact absurd h.2 (by decide))] at hst
            have e2 : V = 0 := by rw [HV.out.1, hst]; rfl
            have e3 : B = false := by rw [HV.out.2, hst]; rfl
            subst e2
            subst e3
            clear HG HV HR0 hst hin e1 hbit hT
            go_wp2_with fail
            refine CX.out.mono ?_; rintro e w4 ⟨rfl, b4⟩
            go_wp2_with fail
            refine (CI.out _).mono ?_; rintro e w' ⟨rfl, rfl⟩
            go_wp2_with fail
            go_ret2
            exact ⟨rfl, nx hbel b4⟩
        · have e1 : decide (0 ≤ x ∧ x < (N : Int)) = false := by simpa using hin
          rw [e1] at CX CXd
          rw [if_neg (fun h => hin h.1)] at hst
          have e2 : V = 0 := by rw [HV.out.1, hst]; rfl
          have e3 : B = false := by rw [HV.out.2, hst]; rfl
          subst e2
          subst e3
          clear HG HV HR0 hst hin e1
          go_wp2_with fail
          refine CX.out.mono ?_; rintro e w4 ⟨rfl, b4⟩
          go_wp2_with fail
          go_ret2
          exact ⟨rfl, nx hbel b4⟩
    · obtain rfl : k = l.length := by omega
      have e := HG.out
      rw [List.drop_length] at e
      have e1 : R = some a := e.symm
      have e2 : V = a := by rw [HV.out.1, e1]; rfl
      have e3 : B = G := by rw [HV.out.2, e1]; simp
      subst e2
      subst e3
      clear e e1 HG HV HR0 HCS
      go_wp2_with fail
      refine (CG.out _ h3).mono ?_; rintro e w4 ⟨rfl, b4⟩
      go_wp2_with fail
      go_ret2
      exact ⟨rfl, nx hbel b4⟩

set_option maxRecDepth 20000 in
set_option maxHeartbeats 3200000 in
theorem setOf_spec (a0 : Option Addr) (c0 : Nat) (os : List Int) (a1 : Option Addr) (c1 : Nat) (l : List Int) (w : World) (h0 : Ints w a0 c0 os) (k0 : Ints w a1 c1 l) (hl : os.length ≤ 2000000) (hll : l.length ≤ 2000000) :
    Calls Try.prog 54 #[.agg #[.slice a0 os.length c0], .slice a1 l.length c1] w fun e w' => e = .returned (.tuple #[.int .i64 (soV os l : Int), .bool (soB os l)]) ∧ Below w.heap.size w w' := by
  have hb0 := (Below.refl w.heap.size w).alloc (Nat.le_refl _) (.cells #[.slice a0 os.length c0] 26)
  have CH := Lib.hid (fun x w h => l2Is_any a0 c0 os x w h hl)
  have CG := Lib.hid (fun w h => isGroup_spec a0 c0 os w h hl)
  have h24 := (ordN_eq os).2
  obtain ⟨V, hV⟩ : ∃ V, V = soV os l := ⟨_, rfl⟩
  obtain ⟨B, hB⟩ : ∃ B, B = soB os l := ⟨_, rfl⟩
  rw [← hV, ← hB]
  unfold soV at hV
  unfold soB at hB
  obtain ⟨R, hR⟩ : ∃ R, R = soF (ordN os) l 0 := ⟨_, rfl⟩
  obtain ⟨G, hG⟩ : ∃ G, G = grpB os := ⟨_, rfl⟩
  obtain ⟨N, hN⟩ : ∃ N, N = ordN os := ⟨_, rfl⟩
  rw [← hN] at CH h24 hR
  rw [← hG] at CG
  have HV : Hid (V = R.getD 0 ∧ B = (R.isSome && G)) := Lib.hid ⟨by rw [hV, ← hN, hR], by rw [hB, ← hN, hR, hG]⟩
  have HR0 : Hid (soF N (l.drop 0) 0 = R) := Lib.hid (by rw [hR]; rfl)
  have HCS := Lib.hid k0.2.2.2.2
  clear hV hB hR hG hN
  go_enter Try.func54, Try.ntmps54
  go_wp2_with fail
  go_loopw [6, 7] (fun va vi wr => ∃ (k a : Nat), k ≤ l.length ∧ vi = .int .i64 (k : Int) ∧ va = .int .i64 (a : Int) ∧ a < 16777216 ∧ Hid (soF N (l.drop k) a = R) ∧ Below w.heap.size w wr ∧ wr.cell? ⟨w.heap.size, 0, none⟩ = some (.slice a0 os.length c0) ∧ w.heap.size < wr.heap.size) (fun _ x _ => (l.length - intOf x).toNat)
  case atStart => exact ⟨0, 0, by omega, rfl, rfl, by omega, HR0, hb0, by simp [go_sem], by simp⟩
  case round =>
    obtain ⟨k, a, hk, rfl, rfl, ha, HG, hbel, q3, z3⟩ := hrel
    have h3 := h0.below hbel (Nat.le_refl _)
    by_cases hlk : k < l.length
    · rcases HCS.out with hcs | ⟨b, off, rfl, hbB, hcell⟩
      · subst hcs; simp at hlk
      · have d1 := (hbel.cell (p := ⟨b, off + k, none⟩) hbB).trans (hcell k hlk)
        have hst := soF_drop (n := N) (a := a) hlk
        rw [HG.out] at hst
        have hwx := k0.2.2.2.1 _ (List.getElem_mem hlk)
        obtain ⟨x, hx⟩ : ∃ x, x = l[k] := ⟨_, rfl⟩
        rw [← hx] at d1 hst hwx
        have CX := Lib.hid (CH.out x wr h3)
        have CXd := Lib.hid (CH.out x wr.drew h3.drew)
        have hlk2 : (k : Int) < l.length := by omega
        have zb : b < wr.heap.size := Nat.lt_of_lt_of_le hbB hbel.size
        clear hcell hx
        by_cases hin : 0 ≤ x ∧ x < (N : Int)
        · obtain ⟨x, rfl⟩ := Int.eq_ofNat_of_zero_le hin.1
          have hx24 : x < 24 := by omega
          have e1 : decide (0 ≤ (x : Int) ∧ (x : Int) < (N : Int)) = true := by simpa using hin
          rw [e1] at CX CXd
          simp only [Int.toNat_natCast] at hst
          obtain ⟨T, hT, hT1, hw, hor⟩ := or_one a x ha hx24
          have hls : a ||| T < 16777216 := by
            have : a ||| T < 2 ^ 24 := Nat.or_lt_two_pow (by omega) (by rw [hT]; exact Nat.pow_lt_pow_right (by decide) hx24)
            simpa using this
          have hbt := bit_is a x (by omega)
          rw [← hT] at hst
          cases hbit : a.testBit x with
          | false =>
            rw [hbit] at hbt
            rw [if_pos ⟨hin, hbit⟩] at hst
            have hadd : a ||| T = a + T := by rw [hT]; exact or_add hbit
            rw [hadd] at hst hls
            have HST := Lib.hid hst.symm
            clear hst hbit hin HG hT hadd hor e1
            go_wp2_with fail
            go_region_held3 (fun w' => w'.cell? ⟨w.heap.size, 0, none⟩ = some (.slice a0 os.length c0) ∧ w'.cell? ⟨b, off + k, none⟩ = some (.int .i64 (x : Int))) (exact ⟨by assumption, by assumption⟩) (first
              | (go_at_call 93; refine CXd.out.mono ?_; rintro e w4 ⟨rfl, b4⟩; have q4 := (b4.cell (p := ⟨w.heap.size, 0, none⟩) z3).trans q3; have d2 := (b4.cell (p := ⟨b, off + k, none⟩) zb).trans d1))
            have hb4 := nx hbel (below_undrew b4)
            have z4 : w.heap.size < w4.heap.size := Nat.lt_of_lt_of_le z3 b4.size
            have d3 := (b4.cell (p := ⟨b, off + k, none⟩) zb).trans d1
            clear b4 hbel q3 z3 h3
            go_wp2_with fail
            go_roundw
            case rel => exact ⟨k + 1, a + T, by omega, by go_num, by go_num, hls, HST, hb4, q4, z4⟩
            case measure => simp [intOf]; omega
          | true =>
            rw [hbit] at hbt
            rw [if_neg (fun h => by rw [hbit] at h; exact absurd h.2 (by decide))] at hst
            have e2 : V = 0 := by rw [HV.out.1, hst]; rfl
            have e3 : B = false := by rw [HV.out.2, hst]; rfl
            subst e2
            subst e3
            clear HG HV HR0 hst hin e1 hbit hT
            go_wp2_with fail
            go_region_held3 (fun w' => w'.cell? ⟨w.heap.size, 0, none⟩ = some (.slice a0 os.length c0) ∧ w'.cell? ⟨b, off + k, none⟩ = some (.int .i64 (x : Int))) (exact ⟨by assumption, by assumption⟩) (first
              | (go_at_call 93; refine CXd.out.mono ?_; rintro e w4 ⟨rfl, b4⟩; have q4 := (b4.cell (p := ⟨w.heap.size, 0, none⟩) z3).trans q3; have d2 := (b4.cell (p := ⟨b, off + k, none⟩) zb).trans d1))
            go_wp2_with fail
            go_ret2
            exact ⟨rfl, nx hbel (below_undrew b4)⟩
        · have e1 : decide (0 ≤ x ∧ x < (N : Int)) = false := by simpa using hin
          rw [e1] at CX CXd
          rw [if_neg (fun h => hin h.1)] at hst
          have e2 : V = 0 := by rw [HV.out.1, hst]; rfl
          have e3 : B = false := by rw [HV.out.2, hst]; rfl
          subst e2
          subst e3
          clear HG HV HR0 hst hin e1
          go_wp2_with fail
          refine wp_region_held_drew (S := fun w' => w'.cell? ⟨w.heap.size, 0, none⟩ = some (.slice a0 os.length c0) ∧ w'.cell? ⟨b, off + k, none⟩ = some (.int .i64 x)) (by kernel_rfl) ⟨q3, d1⟩ (fun hHeld => ?_)
          refine wpAnyH_take (i := 0) (v := ?_) rfl (by kernel_rfl) (by kernel_rfl) (by kernel_rfl) (fun _ _ _ h => h) (Or.inl ⟨by first | kernel_rfl | rfl, ?_⟩) (by assumption) ?_
          rotate_left
          · intro w hSw
            (try dsimp only at hSw)
            (try go_split_ands)
            go_simp
            try with_reducible rfl
          (try simp only [Act.put, List.setIfInBounds_toArray, List.set_cons_zero, List.set_cons_succ])
          refine wpAnyH_take (i := 1) (v := ?_) rfl (by kernel_rfl) (by kernel_rfl) (by kernel_rfl) (fun _ _ _ h => h) (Or.inl ⟨by first | kernel_rfl | rfl, ?_⟩) (by assumption) ?_
          rotate_left
          · intro w hSw
            (try dsimp only at hSw)
            (try go_split_ands)
            go_simp
            try with_reducible rfl
          (try simp only [Act.put, List.setIfInBounds_toArray, List.set_cons_zero, List.set_cons_succ])
          refine wpAnyH_take (i := 2) (v := ?_) rfl (by kernel_rfl) (by kernel_rfl) (by kernel_rfl) (fun _ _ _ h => h) (Or.inl ⟨by first | kernel_rfl | rfl, ?_⟩) (by assumption) ?_
          rotate_left
          · intro w hSw
            (try dsimp only at hSw)
            (try go_split_ands)
            go_simp
            try with_reducible rfl
          (try simp only [Act.put, List.setIfInBounds_toArray, List.set_cons_zero, List.set_cons_succ])
          refine wpAnyH_take (i := 3) (v := ?_) rfl (by kernel_rfl) (by kernel_rfl) (by kernel_rfl) (fun _ _ _ h => h) (Or.inl ⟨by first | kernel_rfl | rfl, ?_⟩) (by assumption) ?_
          rotate_left
          · intro w hSw
            (try dsimp only at hSw)
            (try go_split_ands)
            go_simp
            try with_reducible rfl
          (try simp only [Act.put, List.setIfInBounds_toArray, List.set_cons_zero, List.set_cons_succ])
          refine wpAnyH_take (i := 4) (v := ?_) rfl (by kernel_rfl) (by kernel_rfl) (by kernel_rfl) (fun _ _ _ h => h) (Or.inl ⟨by first | kernel_rfl | rfl, ?_⟩) (by assumption) ?_
          rotate_left
          · intro w hSw
            (try dsimp only at hSw)
            (try go_split_ands)
            go_simp
            try with_reducible rfl
          (try simp only [Act.put, List.setIfInBounds_toArray, List.set_cons_zero, List.set_cons_succ])
          refine wpAnyH_ready (rs := [5]) (by kernel_rfl) (by simp) ?_
          refine AllReadyH.cons rfl (fun K hK => ?_) AllReadyH.nil
          go_simp
          go_at_call 93
          refine CXd.out.mono ?_
          rintro e w4 ⟨rfl, b4⟩
          have q4 := (b4.cell (p := ⟨w.heap.size, 0, none⟩) z3).trans q3
          have d2 := (b4.cell (p := ⟨b, off + k, none⟩) zb).trans d1
          refine hK.out _ _ ⟨q4, d2⟩ (fun hHeld => ?_)
          clear hK K
          (try simp only [Act.put, List.setIfInBounds_toArray, List.set_cons_zero, List.set_cons_succ])
          refine wpAnyH_take (i := 6) (v := ?_) rfl (by kernel_rfl) (by kernel_rfl) (by kernel_rfl) (fun _ _ _ h => h) (Or.inl ⟨by first | kernel_rfl | rfl, ?_⟩) (by assumption) ?_
          rotate_left
          · intro w hSw
            (try dsimp only at hSw)
            (try go_split_ands)
            go_simp
            try with_reducible rfl
          (try simp only [Act.put, List.setIfInBounds_toArray, List.set_cons_zero, List.set_cons_succ])
          refine wpAnyH_take (i := 7) (v := ?_) rfl (by kernel_rfl) (by kernel_rfl) (by kernel_rfl) (fun _ _ _ h => h) (Or.inl ⟨by first | kernel_rfl | rfl, ?_⟩) (by assumption) ?_
          rotate_left
          · intro w hSw
            (try dsimp only at hSw)
            (try go_split_ands)
            go_simp
            try with_reducible rfl
          (try simp only [Act.put, List.setIfInBounds_toArray, List.set_cons_zero, List.set_cons_succ])
          refine wpAnyH_take (i := 8) (v := undef) rfl (by kernel_rfl) (by kernel_rfl) (by kernel_rfl) (fun _ _ _ h => h) (Or.inr ⟨by kernel_rfl, rfl⟩) (by assumption) ?_
          (try simp only [Act.put, List.setIfInBounds_toArray, List.set_cons_zero, List.set_cons_succ])
          refine wpAnyH_take (i := 9) (v := undef) rfl (by kernel_rfl) (by kernel_rfl) (by kernel_rfl) (fun _ _ _ h => h) (Or.inr ⟨by kernel_rfl, rfl⟩) (by assumption) ?_
          (try simp only [Act.put, List.setIfInBounds_toArray, List.set_cons_zero, List.set_cons_succ])
          refine wpAnyH_take (i := 10) (v := undef) rfl (by kernel_rfl) (by kernel_rfl) (by kernel_rfl) (fun _ _ _ h => h) (Or.inr ⟨by kernel_rfl, rfl⟩) (by assumption) ?_
          (try simp only [Act.put, List.setIfInBounds_toArray, List.set_cons_zero, List.set_cons_succ])
          refine wpAnyH_take (i := 11) (v := undef) rfl (by kernel_rfl) (by kernel_rfl) (by kernel_rfl) (fun _ _ _ h => h) (Or.inr ⟨by kernel_rfl, rfl⟩) (by assumption) ?_
          (try simp only [Act.put, List.setIfInBounds_toArray, List.set_cons_zero, List.set_cons_succ])
          refine wpAnyH_take (i := 12) (v := undef) rfl (by kernel_rfl) (by kernel_rfl) (by kernel_rfl) (fun _ _ _ h => h) (Or.inr ⟨by kernel_rfl, rfl⟩) (by assumption) ?_
          (try simp only [Act.put, List.setIfInBounds_toArray, List.set_cons_zero, List.set_cons_succ])
          refine wpAnyH_take (i := 13) (v := undef) rfl (by kernel_rfl) (by kernel_rfl) (by kernel_rfl) (fun _ _ _ h => h) (Or.inr ⟨by kernel_rfl, rfl⟩) (by assumption) ?_
          (try simp only [Act.put, List.setIfInBounds_toArray, List.set_cons_zero, List.set_cons_succ])
          refine wpAnyH_take (i := 14) (v := undef) rfl (by kernel_rfl) (by kernel_rfl) (by kernel_rfl) (fun _ _ _ h => h) (Or.inr ⟨by kernel_rfl, rfl⟩) (by assumption) ?_
          (try simp only [Act.put, List.setIfInBounds_toArray, List.set_cons_zero, List.set_cons_succ])
          refine wpAnyH_take (i := 15) (v := undef) rfl (by kernel_rfl) (by kernel_rfl) (by kernel_rfl) (fun _ _ _ h => h) (Or.inr ⟨by kernel_rfl, rfl⟩) (by assumption) ?_
          (try simp only [Act.put, List.setIfInBounds_toArray, List.set_cons_zero, List.set_cons_succ])
          refine wpAnyH_ready (rs := [16]) (by kernel_rfl) (by simp) ?_
          refine AllReadyH.cons rfl (fun K hK => ?_) AllReadyH.nil
          go_simp
          refine hK.out _ _ (by assumption) (fun hHeld => ?_)
          clear hK K
          (try simp only [Act.put, List.setIfInBounds_toArray, List.set_cons_zero, List.set_cons_succ])
          refine wpAnyH_done (by kernel_rfl) ?_ _
          go_wp2_with fail
          go_ret2
          exact ⟨rfl, nx hbel (below_undrew b4)⟩
    · obtain rfl : k = l.length := by omega
      have e := HG.out
      rw [List.drop_length] at e
      have e1 : R = some a := e.symm
      have e2 : V = a := by rw [HV.out.1, e1]; rfl
      have e3 : B = G := by rw [HV.out.2, e1]; simp
      subst e2
      subst e3
      clear e e1 HG HV HR0 HCS
      go_wp2_with fail
      refine (CG.out _ h3).mono ?_; rintro e w4 ⟨rfl, b4⟩
      go_wp2_with fail
      go_ret2
      exact ⟨rfl, nx hbel b4⟩
end Go.Proofs.Ytokpgbpdmfibjaa
