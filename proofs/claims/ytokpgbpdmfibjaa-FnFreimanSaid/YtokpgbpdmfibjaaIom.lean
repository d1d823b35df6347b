/-
Contracts of both sides' ImageOfMap. Conditions: lengths at most 2000000.
-/
import Derived.Test.YtokpgbpdmfibjaaSto
namespace Go.Proofs.Ytokpgbpdmfibjaa
open Go.RowKit Go.ChangeShapes
set_option linter.unusedVariables false

/-- The set of the numbers of a list that are below n. -/
def imF (n : Nat) : List Int → Nat → Option Nat
  | [], a => some a
  | x :: t, a => if 0 ≤ x ∧ x < (n : Int) then imF n t (a ||| 2 ^ x.toNat) else none
theorem imF_drop {n k a : Nat} {l : List Int} (h : k < l.length) : imF n (l.drop k) a = if 0 ≤ l[k] ∧ l[k] < (n : Int) then imF n (l.drop (k + 1)) (a ||| 2 ^ l[k].toNat) else none := by
  rw [List.drop_eq_getElem_cons h]; rfl
def imV (hs m : List Int) : Nat := (imF (ordN hs) m 0).getD 0
def imB (hs m : List Int) : Bool := (imF (ordN hs) m 0).isSome && grpB hs
set_option maxRecDepth 20000 in
set_option maxHeartbeats 3200000 in
theorem iom_impl (a0 : Option Addr) (c0 : Nat) (os : List Int) (a1 : Option Addr) (c1 : Nat) (l : List Int) (w : World) (h0 : Ints w a0 c0 os) (k0 : Ints w a1 c1 l) (hl : os.length ≤ 2000000) (hll : l.length ≤ 2000000) :
    Calls Try.prog 61 #[.agg #[.slice a0 os.length c0], .slice a1 l.length c1] w fun e w' => e = .returned (.tuple #[.int .i64 (imV os l : Int), .bool (imB os l)]) ∧ Below w.heap.size w w' := by
  have hb0 := (Below.refl w.heap.size w).alloc (Nat.le_refl _) (.cells #[.slice a0 os.length c0] 26)
  have CH := Lib.hid (fun x w h => has_any a0 c0 os x w h hl)
  have CG := Lib.hid (fun w h => isGroup_impl a0 c0 os w h hl)
  have h24 := (ordN_eq os).2
  obtain ⟨V, hV⟩ : ∃ V, V = imV os l := ⟨_, rfl⟩
  obtain ⟨B, hB⟩ : ∃ B, B = imB os l := ⟨_, rfl⟩
  rw [← hV, ← hB]
  unfold imV at hV
  unfold imB at hB
  obtain ⟨R, hR⟩ : ∃ R, R = imF (ordN os) l 0 := ⟨_, rfl⟩
  obtain ⟨G, hG⟩ : ∃ G, G = grpB os := ⟨_, rfl⟩
  obtain ⟨N, hN⟩ : ∃ N, N = ordN os := ⟨_, rfl⟩
  rw [← hN] at CH h24 hR
  rw [← hG] at CG
  have HV : Hid (V = R.getD 0 ∧ B = (R.isSome && G)) := Lib.hid ⟨by rw [hV, ← hN, hR], by rw [hB, ← hN, hR, hG]⟩
  have HR0 : Hid (imF N (l.drop 0) 0 = R) := Lib.hid (by rw [hR]; rfl)
  have HCS := Lib.hid k0.2.2.2.2
  clear hV hB hR hG hN
  go_enter Try.func61, Try.ntmps61
  go_wp2_with fail
  go_loopw [6, 11] (fun va vi wr => ∃ (k a : Nat), k ≤ l.length ∧ vi = .int .i64 (k : Int) ∧ va = .int .i64 (a : Int) ∧ a < 16777216 ∧ Hid (imF N (l.drop k) a = R) ∧ Below w.heap.size w wr ∧ wr.cell? ⟨w.heap.size, 0, none⟩ = some (.slice a0 os.length c0) ∧ w.heap.size < wr.heap.size) (fun _ x _ => (l.length - (intOf x).toNat))
  case atStart => exact ⟨0, 0, by omega, rfl, rfl, by omega, HR0, hb0, by simp [go_sem], by simp⟩
  case round =>
    obtain ⟨k, a, hk, rfl, rfl, ha, HG, hbel, q3, z3⟩ := hrel
    have h3 := h0.below hbel (Nat.le_refl _)
    by_cases hlk : k < l.length
    · rcases HCS.out with hcs | ⟨b, off, rfl, hbB, hcell⟩
      · subst hcs; simp at hlk
      · have d1 := (hbel.cell (p := ⟨b, off + k, none⟩) hbB).trans (hcell k hlk)
        have hst := imF_drop (n := N) (a := a) hlk
        rw [HG.out] at hst
        have hwx := k0.2.2.2.1 _ (List.getElem_mem hlk)
        obtain ⟨x, hx⟩ : ∃ x, x = l[k] := ⟨_, rfl⟩
        rw [← hx] at d1 hst hwx
        have CX := Lib.hid (CH.out x wr h3)
        have CXd := Lib.hid (CH.out x wr.drew h3.drew)
        have hlk2 : (k : Int) < l.length := by omega
        have zb : b < wr.heap.size := Nat.lt_of_lt_of_le hbB hbel.size
        clear hcell hx
        by_cases hin : 0 ≤ x ∧ x < (N : Int)
        · obtain ⟨x, rfl⟩ := Int.eq_ofNat_of_zero_le hin.1
          have hx24 : x < 24 := by omega
          have e1 : decide (0 ≤ (x : Int) ∧ (x : Int) < (N : Int)) = true := by simpa using hin
          rw [e1] at CX CXd
          rw [if_pos hin] at hst
          simp only [Int.toNat_natCast] at hst
          obtain ⟨T, hT, hT1, hw, hor⟩ := or_one a x ha hx24
          have hls : a ||| T < 16777216 := by
            have : a ||| T < 2 ^ 24 := Nat.or_lt_two_pow (by omega) (by rw [hT]; exact Nat.pow_lt_pow_right (by decide) hx24)
            simpa using this
          rw [← hT] at hst
          have HST := Lib.hid hst.symm
          obtain ⟨a', ha'⟩ : ∃ a', a' = a ||| T := ⟨_, rfl⟩
          rw [← ha'] at hor hls HST
          have hx0 : ¬ ((x : Int) < 0) := by omega
          clear hst hin HG hT ha' e1
          go_wp2_with fail
          refine CX.out.mono ?_; rintro e w4 ⟨rfl, b4⟩
          have hb4 := nx hbel b4
          have q4 := (b4.cell (p := ⟨w.heap.size, 0, none⟩) z3).trans q3
          have z4 := Nat.lt_of_lt_of_le z3 b4.size
          have d4 := (b4.cell (p := ⟨b, off + k, none⟩) zb).trans d1
          clear b4 hbel q3 z3 h3
          go_wp2_with fail
          go_roundw
          case rel => exact ⟨k + 1, a', by omega, by go_num, rfl, hls, HST, hb4, q4, z4⟩
          case measure => simp [intOf]; omega
        · have e1 : decide (0 ≤ x ∧ x < (N : Int)) = false := by simpa using hin
          rw [e1] at CX CXd
          rw [if_neg hin] at hst
          have e2 : V = 0 := by rw [HV.out.1, hst]; rfl
          have e3 : B = false := by rw [HV.out.2, hst]; rfl
          subst e2
          subst e3
          clear HG HV HR0 hst hin e1
          go_wp2_with fail
          refine CX.out.mono ?_; rintro e w4 ⟨rfl, b4⟩
          have hb4 := nx hbel b4
          have q4 := (b4.cell (p := ⟨w.heap.size, 0, none⟩) z3).trans q3
          have z4 := Nat.lt_of_lt_of_le z3 b4.size
          have d4 := (b4.cell (p := ⟨b, off + k, none⟩) zb).trans d1
          clear b4 hbel q3 z3 h3
          go_wp2_with fail
          go_ret2
          exact ⟨rfl, hb4⟩
    · obtain rfl : k = l.length := by omega
      have e := HG.out
      rw [List.drop_length] at e
      have e1 : R = some a := e.symm
      have e2 : V = a := by rw [HV.out.1, e1]; rfl
      have e3 : B = G := by rw [HV.out.2, e1]; simp
      subst e2
      subst e3
      clear e e1 HG HV HR0 HCS
      go_wp2_with fail
      refine (CG.out _ h3).mono ?_; rintro e w4 ⟨rfl, b4⟩
      go_wp2_with fail
      go_ret2
      exact ⟨rfl, nx hbel b4⟩
set_option maxRecDepth 20000 in
set_option maxHeartbeats 3200000 in
theorem iom_spec (a0 : Option Addr) (c0 : Nat) (os : List Int) (a1 : Option Addr) (c1 : Nat) (l : List Int) (w : World) (h0 : Ints w a0 c0 os) (k0 : Ints w a1 c1 l) (hl : os.length ≤ 2000000) (hll : l.length ≤ 2000000) :
    Calls Try.prog 69 #[.agg #[.slice a0 os.length c0], .slice a1 l.length c1] w fun e w' => e = .returned (.tuple #[.int .i64 (imV os l : Int), .bool (imB os l)]) ∧ Below w.heap.size w w' := by
  have hb0 := (Below.refl w.heap.size w).alloc (Nat.le_refl _) (.cells #[.slice a0 os.length c0] 26)
  have CH := Lib.hid (fun x w h => l2Is_any a0 c0 os x w h hl)
  have CG := Lib.hid (fun w h => isGroup_spec a0 c0 os w h hl)
  have h24 := (ordN_eq os).2
  obtain ⟨V, hV⟩ : ∃ V, V = imV os l := ⟨_, rfl⟩
  obtain ⟨B, hB⟩ : ∃ B, B = imB os l := ⟨_, rfl⟩
  rw [← hV, ← hB]
  unfold imV at hV
  unfold imB at hB
  obtain ⟨R, hR⟩ : ∃ R, R = imF (ordN os) l 0 := ⟨_, rfl⟩
  obtain ⟨G, hG⟩ : ∃ G, G = grpB os := ⟨_, rfl⟩
  obtain ⟨N, hN⟩ : ∃ N, N = ordN os := ⟨_, rfl⟩
  rw [← hN] at CH h24 hR
  rw [← hG] at CG
  have HV : Hid (V = R.getD 0 ∧ B = (R.isSome && G)) := Lib.hid ⟨by rw [hV, ← hN, hR], by rw [hB, ← hN, hR, hG]⟩
  have HR0 : Hid (imF N (l.drop 0) 0 = R) := Lib.hid (by rw [hR]; rfl)
  have HCS := Lib.hid k0.2.2.2.2
  clear hV hB hR hG hN
  go_enter Try.func69, Try.ntmps69
  go_wp2_with fail
  go_loopw [6, 7] (fun va vi wr => ∃ (k a : Nat), k ≤ l.length ∧ vi = .int .i64 (k : Int) ∧ va = .int .i64 (a : Int) ∧ a < 16777216 ∧ Hid (imF N (l.drop k) a = R) ∧ Below w.heap.size w wr ∧ wr.cell? ⟨w.heap.size, 0, none⟩ = some (.slice a0 os.length c0) ∧ w.heap.size < wr.heap.size) (fun _ x _ => (l.length - (intOf x).toNat))
  case atStart => exact ⟨0, 0, by omega, rfl, rfl, by omega, HR0, hb0, by simp [go_sem], by simp⟩
  case round =>
    obtain ⟨k, a, hk, rfl, rfl, ha, HG, hbel, q3, z3⟩ := hrel
    have h3 := h0.below hbel (Nat.le_refl _)
    by_cases hlk : k < l.length
    · rcases HCS.out with hcs | ⟨b, off, rfl, hbB, hcell⟩
      · subst hcs; simp at hlk
      · have d1 := (hbel.cell (p := ⟨b, off + k, none⟩) hbB).trans (hcell k hlk)
        have hst := imF_drop (n := N) (a := a) hlk
        rw [HG.out] at hst
        have hwx := k0.2.2.2.1 _ (List.getElem_mem hlk)
        obtain ⟨x, hx⟩ : ∃ x, x = l[k] := ⟨_, rfl⟩
        rw [← hx] at d1 hst hwx
        have CX := Lib.hid (CH.out x wr h3)
        have CXd := Lib.hid (CH.out x wr.drew h3.drew)
        have hlk2 : (k : Int) < l.length := by omega
        have zb : b < wr.heap.size := Nat.lt_of_lt_of_le hbB hbel.size
        clear hcell hx
        by_cases hin : 0 ≤ x ∧ x < (N : Int)
        · obtain ⟨x, rfl⟩ := Int.eq_ofNat_of_zero_le hin.1
          have hx24 : x < 24 := by omega
          have e1 : decide (0 ≤ (x : Int) ∧ (x : Int) < (N : Int)) = true := by simpa using hin
          rw [e1] at CX CXd
          rw [if_pos hin] at hst
          simp only [Int.toNat_natCast] at hst
          obtain ⟨T, hT, hT1, hw, hor⟩ := or_one a x ha hx24
          have hls : a ||| T < 16777216 := by
            have : a ||| T < 2 ^ 24 := Nat.or_lt_two_pow (by omega) (by rw [hT]; exact Nat.pow_lt_pow_right (by decide) hx24)
            simpa using this
          rw [← hT] at hst
          have HST := Lib.hid hst.symm
          obtain ⟨a', ha'⟩ : ∃ a', a' = a ||| T := ⟨_, rfl⟩
          rw [← ha'] at hor hls HST
          have hx0 : ¬ ((x : Int) < 0) := by omega
          clear hst hin HG hT ha' e1
          go_wp2_with fail
          go_region_held3 (fun w' => w'.cell? ⟨w.heap.size, 0, none⟩ = some (.slice a0 os.length c0) ∧ w'.cell? ⟨b, off + k, none⟩ = some (.int .i64 (x : Int))) (exact ⟨by assumption, by assumption⟩) (first
            | (go_at_call 93; refine CXd.out.mono ?_; rintro e w4 ⟨rfl, b4⟩; have q4 := (b4.cell (p := ⟨w.heap.size, 0, none⟩) z3).trans q3; have d4 := (b4.cell (p := ⟨b, off + k, none⟩) zb).trans d1))
          have hb4 := nx hbel (below_undrew b4)
          have z4 : w.heap.size < w4.heap.size := Nat.lt_of_lt_of_le z3 b4.size
          have d4 := (b4.cell (p := ⟨b, off + k, none⟩) zb).trans d1
          clear b4 hbel q3 z3 h3
          go_wp2_with fail
          go_roundw
          case rel => exact ⟨k + 1, a', by omega, by go_num, rfl, hls, HST, hb4, q4, z4⟩
          case measure => simp [intOf]; omega
        · have e1 : decide (0 ≤ x ∧ x < (N : Int)) = false := by simpa using hin
          rw [e1] at CX CXd
          rw [if_neg hin] at hst
          have e2 : V = 0 := by rw [HV.out.1, hst]; rfl
          have e3 : B = false := by rw [HV.out.2, hst]; rfl
          subst e2
          subst e3
          clear HG HV HR0 hst hin e1
          go_wp2_with fail
          go_region_held3 (fun w' => w'.cell? ⟨w.heap.size, 0, none⟩ = some (.slice a0 os.length c0) ∧ w'.cell? ⟨b, off + k, none⟩ = some (.int .i64 x)) (exact ⟨by assumption, by assumption⟩) (first
            | (go_at_call 93; refine CXd.out.mono ?_; rintro e w4 ⟨rfl, b4⟩; have q4 := (b4.cell (p := ⟨w.heap.size, 0, none⟩) z3).trans q3; have d4 := (b4.cell (p := ⟨b, off + k, none⟩) zb).trans d1))
          have hb4 := nx hbel (below_undrew b4)
          have z4 : w.heap.size < w4.heap.size := Nat.lt_of_lt_of_le z3 b4.size
          have d4 := (b4.cell (p := ⟨b, off + k, none⟩) zb).trans d1
          clear b4 hbel q3 z3 h3
          go_wp2_with fail
          go_ret2
          exact ⟨rfl, hb4⟩
    · obtain rfl : k = l.length := by omega
      have e := HG.out
      rw [List.drop_length] at e
      have e1 : R = some a := e.symm
      have e2 : V = a := by rw [HV.out.1, e1]; rfl
      have e3 : B = G := by rw [HV.out.2, e1]; simp
      subst e2
      subst e3
      clear e e1 HG HV HR0 HCS
      go_wp2_with fail
      refine (CG.out _ h3).mono ?_; rintro e w4 ⟨rfl, b4⟩
      go_wp2_with fail
      go_ret2
      exact ⟨rfl, nx hbel b4⟩
end Go.Proofs.Ytokpgbpdmfibjaa
