/-
Contracts of both IsApFreeLists: at most 20 numbers from 0 to 1000 ascend strictly and none is the middle of two others. Conditions: lengths at most 2000000.
-/
import Derived.Test.YtbidkjhgodkamaaInts2
namespace Go.Proofs.Ytbidkjhgodkamaa
open Go.RowKit Go.ChangeShapes

/-- The number at place i is from 0 to 1000 and greater than the one ahead of it. -/
def OkAt (xs : List Int) (i : Nat) : Prop := inB (xs.getD i 0) 0 1000 = true ∧ (0 < i → xs.getD (i - 1) 0 < xs.getD i 0)
def NoMid (xs : List Int) (i k j : Nat) : Prop := xs.getD i 0 + xs.getD j 0 ≠ 2 * xs.getD k 0
def apP (xs : List Int) : Prop := xs.length ≤ 20 ∧ (∀ i, i < xs.length → OkAt xs i) ∧ ∀ i k j, i < k → k < j → j < xs.length → NoMid xs i k j
open Classical in
/-- What both return. -/
noncomputable def apB (xs : List Int) : Bool := decide (apP xs)
theorem apB_false {xs : List Int} (h : ¬ apP xs) : apB xs = false := by simp [apB, h]
theorem apB_true {xs : List Int} (h : apP xs) : apB xs = true := by simp [apB, h]
theorem getD_at {xs : List Int} {i : Nat} (h : i < xs.length) : xs.getD i 0 = xs[i] := by simp [List.getD, h]

set_option maxHeartbeats 1600000 in
theorem apl_spec (a0 : Option Addr) (c0 : Nat) (xs : List Int) (w : World) (h0 : Ints w a0 c0 xs) (hl : xs.length ≤ 2000000) :
    Calls Try.prog 125 #[.slice a0 xs.length c0] w fun e w' => e = .returned (.bool (apB xs)) ∧ Below w.heap.size w w' := by
  obtain ⟨-, -, -, -, hcs⟩ := h0
  have HC := Lib.hid hcs
  obtain ⟨r, hr⟩ : ∃ r, r = apB xs := ⟨_, rfl⟩
  have HR := Lib.hid hr
  rw [← hr]
  clear hr hcs
  go_enter Try.func125, Try.ntmps125
  go_wp2_with fail
  go_loopw [3] (fun i wr => ∃ k : Nat, k ≤ xs.length ∧ i = .int .i64 k ∧ Hid (∀ i, i < k → OkAt xs i) ∧ Below w.heap.size w wr) (fun i _ => xs.length - (intOf i).toNat)
  case atStart => exact ⟨0, by omega, rfl, fun i h => by omega, Below.refl _ _⟩
  case round =>
    obtain ⟨k, hk, rfl, HK, hbel⟩ := hrel
    by_cases hlt : k < xs.length
    · rcases HC.out with hcs | ⟨b, off, rfl, hbB, hcell⟩
      · subst hcs; simp at hlt
      · have c1 : wr.cell? ⟨b, off + k, none⟩ = some (.int .i64 (xs.getD k 0)) := by rw [getD_at hlt]; exact (hbel.cell (p := ⟨b, off + k, none⟩) hbB).trans (hcell k hlt)
        obtain ⟨x, hx⟩ : ∃ x, x = xs.getD k 0 := ⟨_, rfl⟩
        rw [← hx] at c1
        have HX := Lib.hid hx
        have l1 : (k : Int) < xs.length := by omega
        cases hin : inB x 0 1000 with
        | false =>
          have e : r = false := by
            rw [HR.out]
            apply apB_false
            rintro ⟨_, h2, _⟩
            have := (h2 k hlt).1
            rw [← HX.out, hin] at this
            cases this
          subst e
          have HI := Lib.hid hin
          clear hin hx HX HR hcell HK
          go_wp2_with fail
          refine wp_region_quiet_lit (by kernel_rfl) (by kernel_rfl) ?_
          repeat (any_goals (first | go_big_quiet_step ((go_at_call 202; exact Calls.quiet_of_same ((l1In_is x 0 1000 false HI.out _).mono fun e w' h => ⟨h.1, h.2.symm⟩))) | quiet_step ((go_at_call 202; exact Calls.quiet_of_same ((l1In_is x 0 1000 false HI.out _).mono fun e w' h => ⟨h.1, h.2.symm⟩)))))
          refine wpQuiet_nil ?_
          intro _ hw'
          obtain ⟨nq, hw''⟩ := hw'
          subst hw''
          go_wp2_with fail
          go_ret
          exact ⟨rfl, below_drewN hbel _⟩
        | true =>
          have HI := Lib.hid hin
          clear hin hx
          match k, hk, hlt, HK, c1, HX, l1 with
          | 0, hk, hlt, HK, c1, HX, l1 =>
            have c1' : wr.cell? ⟨b, off, none⟩ = some (.int .i64 x) := c1
            have l1' : (0 : Int) < xs.length := by omega
            clear hcell c1 l1
            have ok : Hid (∀ i, i < 0 + 1 → OkAt xs i) := fun i hi => by
              obtain rfl : i = 0 := by omega
              exact ⟨by rw [← HX.out]; exact HI.out, fun h => by omega⟩
            have h00 : decide ((0 : Int) < 0) = false := by decide
            go_wp2_with fail
            refine wp_region_quiet_lit (by kernel_rfl) (by kernel_rfl) ?_
            repeat (any_goals (first | go_big_quiet_step ((go_at_call 202; exact Calls.quiet_of_same ((l1In_is x 0 1000 true HI.out _).mono fun e w' h => ⟨h.1, h.2.symm⟩))) | quiet_step ((go_at_call 202; exact Calls.quiet_of_same ((l1In_is x 0 1000 true HI.out _).mono fun e w' h => ⟨h.1, h.2.symm⟩)))))
            refine wpQuiet_nil ?_
            intro _ hw'
            obtain ⟨nq, hw''⟩ := hw'
            subst hw''
            go_wp2_with fail
            go_roundw
            case rel => exact ⟨0 + 1, by omega, by go_num, ok, below_drewN hbel _⟩
            case measure => simp [intOf]; omega
          | k + 1, hk, hlt, HK, c1, HX, l1 =>
            have c2 : wr.cell? ⟨b, off + k, none⟩ = some (.int .i64 (xs.getD k 0)) := by rw [getD_at (by omega)]; exact (hbel.cell (p := ⟨b, off + k, none⟩) hbB).trans (hcell k (by omega))
            obtain ⟨y, hy⟩ : ∃ y, y = xs.getD k 0 := ⟨_, rfl⟩
            rw [← hy] at c2
            have HY := Lib.hid hy
            clear hcell hy
            have k1 : IntKind.i64.wrap (k : Int) = k := wrap_in (by omega) (by omega)
            have l2 : (k : Int) < xs.length := by omega
            have hpos : (0 : Int) < (k : Int) + 1 := by omega
            by_cases hxy : x ≤ y
            · have e : r = false := by
                rw [HR.out]
                apply apB_false
                rintro ⟨_, h2, _⟩
                have := (h2 (k + 1) hlt).2 (by omega)
                rw [← HX.out, show k + 1 - 1 = k by omega, ← HY.out] at this
                omega
              subst e
              clear HX HY HR HK
              go_wp2_with fail
              refine wp_region_quiet_lit (by kernel_rfl) (by kernel_rfl) ?_
              repeat (any_goals (first | go_big_quiet_step ((go_at_call 202; exact Calls.quiet_of_same ((l1In_is x 0 1000 true HI.out _).mono fun e w' h => ⟨h.1, h.2.symm⟩))) | quiet_step ((go_at_call 202; exact Calls.quiet_of_same ((l1In_is x 0 1000 true HI.out _).mono fun e w' h => ⟨h.1, h.2.symm⟩)))))
              refine wpQuiet_nil ?_
              intro _ hw'
              obtain ⟨nq, hw''⟩ := hw'
              subst hw''
              go_wp2_with fail
              go_ret
              exact ⟨rfl, below_drewN hbel _⟩
            · have ok : Hid (∀ i, i < k + 1 + 1 → OkAt xs i) := fun i hi => by
                by_cases e : i = k + 1
                · subst e
                  refine ⟨by rw [← HX.out]; exact HI.out, fun _ => ?_⟩
                  rw [← HX.out, show k + 1 - 1 = k by omega, ← HY.out]
                  omega
                · exact HK.out i (by omega)
              have hxy' : decide (x ≤ y) = false := by simpa using hxy
              clear HX HY HR HK
              go_wp2_with fail
              refine wp_region_quiet_lit (by kernel_rfl) (by kernel_rfl) ?_
              repeat (any_goals (first | go_big_quiet_step ((go_at_call 202; exact Calls.quiet_of_same ((l1In_is x 0 1000 true HI.out _).mono fun e w' h => ⟨h.1, h.2.symm⟩))) | quiet_step ((go_at_call 202; exact Calls.quiet_of_same ((l1In_is x 0 1000 true HI.out _).mono fun e w' h => ⟨h.1, h.2.symm⟩)))))
              refine wpQuiet_nil ?_
              intro _ hw'
              obtain ⟨nq, hw''⟩ := hw'
              subst hw''
              go_wp2_with fail
              go_roundw
              case rel => exact ⟨k + 1 + 1, by omega, by go_num, ok, below_drewN hbel _⟩
              case measure => simp [intOf]; omega
    · have ok : ∀ i, i < xs.length → OkAt xs i := fun i hi => HK.out i (by omega)
      clear HK
      by_cases h20 : 20 < xs.length
      · have e : r = false := by
          rw [HR.out]
          exact apB_false fun h => by have := h.1; omega
        subst e
        clear ok HR
        go_wp2_with fail
        go_ret
        exact ⟨rfl, hbel⟩
      · have hv : ∀ i, i < xs.length → 0 ≤ xs.getD i 0 ∧ xs.getD i 0 ≤ 1000 := fun i hi => inB_true.1 (ok i hi).1
        have OK := Lib.hid ok
        have HV := Lib.hid hv
        have hn20 : (xs.length : Int) ≤ 20 := by omega
        clear ok hv
        obtain ⟨wo, rfl⟩ : ∃ wo : World, wo = wr := ⟨_, rfl⟩
        go_wp2_with fail
        go_loopw [4] (fun i wr => ∃ p : Nat, p ≤ xs.length ∧ i = .int .i64 p ∧ Hid (∀ i k j, i < p → i < k → k < j → j < xs.length → NoMid xs i k j) ∧ Below w.heap.size w wr) (fun i _ => xs.length - (intOf i).toNat)
        case atStart => exact ⟨0, by omega, rfl, fun i k j h => by omega, hbel⟩
        case round =>
          obtain ⟨p, hp, rfl, HP, hbel⟩ := hrel
          by_cases hlt : p < xs.length
          · obtain ⟨wo, rfl⟩ : ∃ wo : World, wo = wr := ⟨_, rfl⟩
            go_wp2_with fail
            go_loopw [5] (fun i wr => ∃ q : Nat, p < q ∧ q ≤ xs.length ∧ i = .int .i64 q ∧ Hid (∀ k j, p < k → k < q → k < j → j < xs.length → NoMid xs p k j) ∧ Below w.heap.size w wr) (fun i _ => xs.length - (intOf i).toNat)
            case atStart => exact ⟨p + 1, by omega, by omega, by go_num, fun k j h1 h2 => by omega, hbel⟩
            case round =>
              obtain ⟨q, hpq, hq, rfl, HQ, hbel⟩ := hrel
              by_cases hltq : q < xs.length
              · obtain ⟨wo, rfl⟩ : ∃ wo : World, wo = wr := ⟨_, rfl⟩
                go_wp2_with fail
                go_loopw [6] (fun i wr => ∃ s : Nat, q < s ∧ s ≤ xs.length ∧ i = .int .i64 s ∧ Hid (∀ j, q < j → j < s → NoMid xs p q j) ∧ Below w.heap.size w wr) (fun i _ => xs.length - (intOf i).toNat)
                case atStart => exact ⟨q + 1, by omega, by omega, by go_num, fun j h1 h2 => by omega, hbel⟩
                case round =>
                  obtain ⟨s, hqs, hs, rfl, HS, hbel⟩ := hrel
                  by_cases hlts : s < xs.length
                  · rcases HC.out with hcs | ⟨b, off, rfl, hbB, hcell⟩
                    · subst hcs; simp at hlt
                    · have c1 : wr.cell? ⟨b, off + p, none⟩ = some (.int .i64 (xs.getD p 0)) := by rw [getD_at hlt]; exact (hbel.cell (p := ⟨b, off + p, none⟩) hbB).trans (hcell p hlt)
                      have c2 : wr.cell? ⟨b, off + q, none⟩ = some (.int .i64 (xs.getD q 0)) := by rw [getD_at hltq]; exact (hbel.cell (p := ⟨b, off + q, none⟩) hbB).trans (hcell q hltq)
                      have c3 : wr.cell? ⟨b, off + s, none⟩ = some (.int .i64 (xs.getD s 0)) := by rw [getD_at hlts]; exact (hbel.cell (p := ⟨b, off + s, none⟩) hbB).trans (hcell s hlts)
                      obtain ⟨v1, v1'⟩ := HV.out p hlt
                      obtain ⟨v2, v2'⟩ := HV.out q hltq
                      obtain ⟨v3, v3'⟩ := HV.out s hlts
                      have hmid : NoMid xs p q s ↔ xs.getD p 0 + xs.getD s 0 ≠ 2 * xs.getD q 0 := Iff.rfl
                      obtain ⟨x, hx⟩ : ∃ x, x = xs.getD p 0 := ⟨_, rfl⟩
                      obtain ⟨y, hy⟩ : ∃ y, y = xs.getD q 0 := ⟨_, rfl⟩
                      obtain ⟨z, hz⟩ : ∃ z, z = xs.getD s 0 := ⟨_, rfl⟩
                      rw [← hx] at c1 v1 v1' hmid
                      rw [← hy] at c2 v2 v2' hmid
                      rw [← hz] at c3 v3 v3' hmid
                      have HM := Lib.hid hmid
                      clear hx hy hz hmid hcell
                      have l1 : (p : Int) < xs.length := by omega
                      have l2 : (q : Int) < xs.length := by omega
                      have l3 : (s : Int) < xs.length := by omega
                      have k1 : IntKind.i64.wrap (x + z) = x + z := wrap_in (by omega) (by omega)
                      have k2 : IntKind.i64.wrap (2 * y) = 2 * y := wrap_in (by omega) (by omega)
                      by_cases he : x + z = 2 * y
                      · have e : r = false := by
                          rw [HR.out]
                          exact apB_false fun h => HM.out.1 (h.2.2 p q s hpq hqs hlts) he
                        subst e
                        have he' : (x + z == 2 * y) = true := by simpa using he
                        clear HM HS HQ HP HR OK HV he
                        go_wp2_with fail
                        go_quiet (fail)
                        go_wp2_with fail
                        go_ret
                        exact ⟨rfl, below_drewN hbel _⟩
                      · have HN : Hid (∀ j, q < j → j < s + 1 → NoMid xs p q j) := fun j h1 h2 => by
                          by_cases e : j = s
                          · subst e; exact HM.out.2 he
                          · exact HS.out j h1 (by omega)
                        have he' : (x + z == 2 * y) = false := by simpa using he
                        clear HM HS he
                        go_wp2_with fail
                        go_quiet (fail)
                        go_wp2_with fail
                        go_roundw
                        case rel => exact ⟨s + 1, by omega, by omega, by go_num, HN, below_drewN hbel _⟩
                        case measure => simp [intOf]; omega
                  · have HN : Hid (∀ k j, p < k → k < q + 1 → k < j → j < xs.length → NoMid xs p k j) := fun k j h1 h2 h3 h4 => by
                      by_cases e : k = q
                      · subst e; exact HS.out j h3 (by omega)
                      · exact HQ.out k j h1 (by omega) h3 h4
                    clear HS HQ
                    go_wp2_with fail
                    go_roundw
                    case rel => exact ⟨q + 1, by omega, by omega, by go_num, HN, hbel⟩
                    case measure => simp [intOf]; omega
              · have HN : Hid (∀ i k j, i < p + 1 → i < k → k < j → j < xs.length → NoMid xs i k j) := fun i k j h1 h2 h3 h4 => by
                  by_cases e : i = p
                  · subst e; exact HQ.out k j h2 (by omega) h3 h4
                  · exact HP.out i k j (by omega) h2 h3 h4
                clear HQ HP
                go_wp2_with fail
                go_roundw
                case rel => exact ⟨p + 1, by omega, by go_num, HN, hbel⟩
                case measure => simp [intOf]; omega
          · have e : r = true := by
              rw [HR.out]
              exact apB_true ⟨by omega, OK.out, fun i k j h1 h2 h3 => HP.out i k j (by omega) h1 h2 h3⟩
            subst e
            clear HP OK HV HR
            go_wp2_with fail
            go_ret
            exact ⟨rfl, hbel⟩

set_option maxHeartbeats 1600000 in
theorem apl_impl (a0 : Option Addr) (c0 : Nat) (xs : List Int) (w : World) (h0 : Ints w a0 c0 xs) (hl : xs.length ≤ 2000000) :
    Calls Try.prog 119 #[.slice a0 xs.length c0] w fun e w' => e = .returned (.bool (apB xs)) ∧ Below w.heap.size w w' := by
  obtain ⟨hcap, -, -, -, hcs⟩ := h0
  have HC := Lib.hid hcs
  obtain ⟨r, hr⟩ : ∃ r, r = apB xs := ⟨_, rfl⟩
  have HR := Lib.hid hr
  rw [← hr]
  clear hr hcs
  by_cases h20 : 20 < xs.length
  · have e : r = false := by
      rw [HR.out]
      exact apB_false fun h => by have := h.1; omega
    subst e
    clear HR HC hcap
    go_enter Try.func119, Try.ntmps119
    go_wp2_with fail
    go_ret
    exact ⟨rfl, Below.refl _ _⟩
  · go_enter Try.func119, Try.ntmps119
    go_wp2_with fail
    go_loop [14] (fun i => ∃ p : Nat, p ≤ xs.length ∧ i = .int .i64 p ∧ Hid ((∀ i, i < p → OkAt xs i) ∧ ∀ i k j, i < k → k < j → j < p → NoMid xs i k j)) (fun i => xs.length - (intOf i).toNat)
    case atStart => exact ⟨0, by omega, rfl, fun i h => by omega, fun i k j _ _ h => by omega⟩
    case round =>
      obtain ⟨p, hp, rfl, HP⟩ := hrel
      by_cases hlt : p < xs.length
      · rcases HC.out with hcs | ⟨b, off, rfl, hbB, hcell⟩
        · subst hcs; simp at hlt
        · have HCELL := Lib.hid hcell
          have c1 : w.cell? ⟨b, off + p, none⟩ = some (.int .i64 (xs.getD p 0)) := by rw [getD_at hlt]; exact hcell p hlt
          obtain ⟨x, hx⟩ : ∃ x, x = xs.getD p 0 := ⟨_, rfl⟩
          rw [← hx] at c1
          have HX := Lib.hid hx
          clear hcell hx
          cases hin : inB x 0 1000 with
          | false =>
            have e : r = false := by
              rw [HR.out]
              apply apB_false
              rintro ⟨_, h2, _⟩
              have := (h2 p hlt).1
              rw [← HX.out, hin] at this
              cases this
            subst e
            have HI := Lib.hid hin
            clear hin HX HR HP HC HCELL
            go_wp2_with (go_at_call 196; refine (within_is x 0 1000 false HI.out _).mono ?_; rintro e w' ⟨rfl, rfl⟩)
            go_ret
            exact ⟨rfl, Below.refl _ _⟩
          | true =>
            obtain ⟨vx, vx'⟩ := inB_true.1 hin
            have HI := Lib.hid hin
            clear hin
            by_cases hord : 0 < p ∧ x ≤ xs.getD (p - 1) 0
            · obtain ⟨hpos, hle⟩ := hord
              obtain ⟨q, rfl⟩ : ∃ q, p = q + 1 := ⟨p - 1, by omega⟩
              have e : r = false := by
                rw [HR.out]
                apply apB_false
                rintro ⟨_, h2, _⟩
                have := (h2 (q + 1) hlt).2 (by omega)
                rw [← HX.out] at this
                omega
              subst e
              rw [show q + 1 - 1 = q by omega] at hle
              have c2 : w.cell? ⟨b, off + q, none⟩ = some (.int .i64 (xs.getD q 0)) := by rw [getD_at (by omega)]; exact HCELL.out q (by omega)
              obtain ⟨y, hy⟩ : ∃ y, y = xs.getD q 0 := ⟨_, rfl⟩
              rw [← hy] at c2 hle
              clear hy HX HR HP HC HCELL
              go_wp2_with (go_at_call 196; refine (within_is x 0 1000 true HI.out _).mono ?_; rintro e w' ⟨rfl, rfl⟩)
              go_ret
              exact ⟨rfl, Below.refl _ _⟩
            · have ok : ∀ i, i < p + 1 → OkAt xs i := fun i hi => by
                by_cases e : i = p
                · subst e
                  refine ⟨by rw [← HX.out]; exact HI.out, fun h => ?_⟩
                  rw [← HX.out]
                  omega
                · exact HP.out.1 i (by omega)
              have hv : ∀ i, i < p + 1 → 0 ≤ xs.getD i 0 ∧ xs.getD i 0 ≤ 1000 := fun i hi => inB_true.1 (ok i hi).1
              have OK := Lib.hid ok
              have HV := Lib.hid hv
              clear ok hv
              have hstart : (p = 0 ∨ ∃ q y, p = q + 1 ∧ w.cell? ⟨b, off + q, none⟩ = some (.int .i64 y) ∧ y < x) := by
                by_cases h : p = 0
                · exact .inl h
                · refine .inr ⟨p - 1, xs.getD (p - 1) 0, by omega, ?_, by omega⟩
                  rw [getD_at (by omega)]
                  exact HCELL.out _ _
              have HX' := HX
              clear hord HX
              rcases hstart with rfl | ⟨q, y, rfl, c2, hyx⟩
              · have c1' : w.cell? ⟨b, off, none⟩ = some (.int .i64 x) := c1
                have hnext : Hid ((∀ i, i < 0 + 1 → OkAt xs i) ∧ ∀ i k j, i < k → k < j → j < 0 + 1 → NoMid xs i k j) := ⟨OK.out, fun i k j h1 h2 h3 => by omega⟩
                clear c1 OK HV HP HC HCELL HR
                go_wp2_with (go_at_call 196; refine (within_is x 0 1000 true HI.out _).mono ?_; rintro e w' ⟨rfl, rfl⟩)
                refine wp_loop_once ?_
                go_wp2_with fail
                go_round
                case rel => exact ⟨0 + 1, by omega, by go_num, hnext⟩
                case measure => simp [intOf]; omega
              · go_wp2_with (go_at_call 196; refine (within_is x 0 1000 true HI.out _).mono ?_; rintro e w' ⟨rfl, rfl⟩)
                clear c1 c2 hyx
                go_loop [39] (fun i => ∃ k : Nat, k ≤ q + 1 ∧ i = .int .i64 k ∧ Hid (∀ m k', m < k' → k' < k → NoMid xs m k' (q + 1))) (fun i => (q + 2 - intOf i).toNat)
                case atStart => exact ⟨0, by omega, rfl, fun m k' _ h => by omega⟩
                case round =>
                  obtain ⟨k, hk, rfl, HK⟩ := hrel
                  by_cases hltk : k < q + 1
                  · have c1 : w.cell? ⟨b, off + k, none⟩ = some (.int .i64 (xs.getD k 0)) := by rw [getD_at (by omega)]; exact HCELL.out k (by omega)
                    obtain ⟨vy, vy'⟩ := HV.out k (by omega)
                    obtain ⟨y, hy⟩ : ∃ y, y = xs.getD k 0 := ⟨_, rfl⟩
                    rw [← hy] at c1 vy vy'
                    have HY := Lib.hid hy
                    clear hy
                    go_wp2_with fail
                    go_loop [48] (fun i => ∃ m : Nat, m ≤ k ∧ i = .int .i64 m ∧ Hid (∀ m', m' < m → NoMid xs m' k (q + 1))) (fun i => (k + 1 - intOf i).toNat)
                    case atStart => exact ⟨0, by omega, rfl, fun m' h => by omega⟩
                    case round =>
                      obtain ⟨m, hm, rfl, HM⟩ := hrel
                      by_cases hltm : m < k
                      · have c2 : w.cell? ⟨b, off + m, none⟩ = some (.int .i64 (xs.getD m 0)) := by rw [getD_at (by omega)]; exact HCELL.out m (by omega)
                        obtain ⟨vz, vz'⟩ := HV.out m (by omega)
                        have hmid : NoMid xs m k (q + 1) ↔ xs.getD m 0 + xs.getD (q + 1) 0 ≠ 2 * xs.getD k 0 := Iff.rfl
                        obtain ⟨z, hz⟩ : ∃ z, z = xs.getD m 0 := ⟨_, rfl⟩
                        rw [← hz] at c2 vz vz'
                        rw [← hz, ← HX'.out, ← HY.out] at hmid
                        have HMID := Lib.hid hmid
                        clear hz hmid
                        by_cases he : x + z = 2 * y
                        · have e : r = false := by
                            rw [HR.out]
                            exact apB_false fun h => HMID.out.1 (h.2.2 m k (q + 1) hltm hltk hlt) (by omega)
                          subst e
                          have he' : (x + z == 2 * y) = true := by simpa using he
                          clear HMID HM HK HP HR OK HV HX' HY he HC HCELL
                          go_wp2_with fail
                          go_ret
                          exact ⟨rfl, Below.refl _ _⟩
                        · have hnext : Hid (∀ m', m' < m + 1 → NoMid xs m' k (q + 1)) := fun m' h1 => by
                            by_cases e : m' = m
                            · subst e; exact HMID.out.2 (by omega)
                            · exact HM.out m' (by omega)
                          have he' : (x + z == 2 * y) = false := by simpa using he
                          clear HMID HM he
                          go_wp2_with fail
                          go_round
                          case rel => exact ⟨m + 1, by omega, by go_num, hnext⟩
                          case measure => simp [intOf]; omega
                      · have hnext : Hid (∀ m k', m < k' → k' < k + 1 → NoMid xs m k' (q + 1)) := fun m' k' h1 h2 => by
                          by_cases e : k' = k
                          · subst e; exact HM.out m' (by omega)
                          · exact HK.out m' k' h1 (by omega)
                        clear HM HK c1
                        go_wp2_with fail
                        go_round
                        case rel => exact ⟨k + 1, by omega, by go_num, hnext⟩
                        case measure => simp [intOf]; omega
                  · have hnext : Hid ((∀ i, i < q + 1 + 1 → OkAt xs i) ∧ ∀ i k j, i < k → k < j → j < q + 1 + 1 → NoMid xs i k j) := ⟨OK.out, fun i k' j h1 h2 h3 => by
                      by_cases e : j = q + 1
                      · subst e; exact HK.out i k' h1 (by omega)
                      · exact HP.out.2 i k' j h1 h2 (by omega)⟩
                    clear HK HP OK HV HC HCELL HR
                    go_wp2_with fail
                    go_round
                    case rel => exact ⟨q + 1 + 1, by omega, by go_num, hnext⟩
                    case measure => simp [intOf]; omega
      · have e : r = true := by
          rw [HR.out]
          exact apB_true ⟨by omega, fun i hi => HP.out.1 i (by omega), fun i k j h1 h2 h3 => HP.out.2 i k j h1 h2 (by omega)⟩
        subst e
        clear HP HR HC
        go_wp2_with fail
        go_ret
        exact ⟨rfl, Below.refl _ _⟩
end Go.Proofs.Ytbidkjhgodkamaa
