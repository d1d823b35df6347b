/-
Contracts of fits and l24Bad: whether the last number of a list is no sum of two of its color. Conditions: lengths at most 60.
-/
import Derived.Test.YtbidkjhgodkamaaSch
namespace Go.Proofs.Ytbidkjhgodkamaa
open Go.RowKit Go.ChangeShapes

/-- No x with x and len - x and len of one color. -/
def fitP (xs : List Int) : Prop := ∀ x, 1 ≤ x → 2 * x ≤ xs.length → ¬ hitS xs xs.length x
open Classical in
noncomputable def fitB (xs : List Int) : Bool := decide (fitP xs)
theorem fitB_true {xs : List Int} (h : fitP xs) : fitB xs = true := by simp [fitB, h]
theorem fitB_false {xs : List Int} (h : ¬ fitP xs) : fitB xs = false := by simp [fitB, h]

set_option maxHeartbeats 1600000 in
theorem fits_any (a0 : Option Addr) (c0 : Nat) (xs : List Int) (w : World) (h0 : Ints w a0 c0 xs) (hl : xs.length ≤ 60) :
    Calls Try.prog 236 #[.slice a0 xs.length c0] w fun e w' => e = .returned (.bool (fitB xs)) ∧ Below w.heap.size w w' := by
  obtain ⟨-, -, -, -, hcs⟩ := h0
  obtain ⟨r, hr⟩ : ∃ r, r = (fitB xs) := ⟨_, rfl⟩
  rw [← hr]
  have HR := Lib.hid hr
  have HC := Lib.hid hcs
  clear hr hcs
  by_cases hlen : xs.length < 2
  · have e : r = true := by rw [HR.out, fitB_true (fun x h1 h2 => by omega)]
    subst e
    have hlen' : (xs.length : Int) < 2 := by omega
    clear HR HC
    go_enter Try.func236, Try.ntmps236
    go_wp2_with fail
    refine wp_loop_once ?_
    go_wp2_with fail
    go_ret
    exact ⟨rfl, Below.refl _ _⟩
  · obtain ⟨t, ht⟩ : ∃ t, xs.length = t + 2 := ⟨xs.length - 2, by omega⟩
    have HT := Lib.hid ht
    have hcast : ((t + 2 : Nat) : Int) = (t : Int) + 2 := by omega
    have ht60 : t ≤ 58 := by omega
    rw [ht]
    clear ht hl hlen
    go_enter Try.func236, Try.ntmps236
    go_wp2_with fail
    go_loopw [4] (fun x wr => ∃ s : Nat, 2 * s ≤ t + 2 ∧ x = .int .i64 (s + 1) ∧ Hid (∀ x, 1 ≤ x → x < s + 1 → ¬ hitS xs xs.length x) ∧ Below w.heap.size w wr) (fun x _ => (100 - intOf x).toNat)
    case atStart => exact ⟨0, by omega, rfl, (fun x h1 h2 => by omega), Below.refl _ _⟩
    case round =>
      obtain ⟨s, hs, rfl, HN, hbel⟩ := hrel
      have hT := HT.out
      by_cases h2 : 2 * (s + 1) ≤ t + 2
      · rcases HC.out with hcs | ⟨b, off, rfl, hbB, hcell⟩
        · subst hcs; simp at hT
        · have c1 : wr.cell? ⟨b, off + s, none⟩ = some (.int .i64 (xs[s]'(by omega))) := (hbel.cell (p := ⟨b, off + s, none⟩) hbB).trans (hcell s (by omega))
          have c2 : wr.cell? ⟨b, off + (t + 1), none⟩ = some (.int .i64 (xs[t + 1]'(by omega))) := (hbel.cell (p := ⟨b, off + (t + 1), none⟩) hbB).trans (hcell (t + 1) (by omega))
          have c3 : wr.cell? ⟨b, off + (t - s), none⟩ = some (.int .i64 (xs[t - s]'(by omega))) := (hbel.cell (p := ⟨b, off + (t - s), none⟩) hbB).trans (hcell (t - s) (by omega))
          obtain ⟨u, hu⟩ : ∃ u, u = xs[s]'(by omega) := ⟨_, rfl⟩
          obtain ⟨v, hv⟩ : ∃ v, v = xs[t + 1]'(by omega) := ⟨_, rfl⟩
          obtain ⟨q, hq⟩ : ∃ q, q = xs[t - s]'(by omega) := ⟨_, rfl⟩
          rw [← hu] at c1
          rw [← hv] at c2
          rw [← hq] at c3
          have hhit : hitS xs xs.length (s + 1) ↔ u = v ∧ q = v := by
            unfold hitS
            rw [hT, show s + 1 - 1 = s by omega, show t + 2 - 1 = t + 1 by omega, show t + 2 - (s + 1) - 1 = t - s by omega, List.getElem?_eq_getElem (by omega), List.getElem?_eq_getElem (by omega), List.getElem?_eq_getElem (by omega), Option.some.injEq, Option.some.injEq, ← hu, ← hv, ← hq]
          have HH := Lib.hid hhit
          clear hu hv hq hhit hcell
          have k1 : IntKind.i64.wrap (s : Int) = s := wrap_in (by omega) (by omega)
          have k2 : IntKind.i64.wrap ((t : Int) + 2 - 1) = (t + 1 : Nat) := by rw [wrap_in (by omega) (by omega)]; omega
          have k3 : IntKind.i64.wrap ((t : Int) + 2 - ((s : Int) + 1) - 1) = (t - s : Nat) := by rw [wrap_in (by omega) (by omega)]; omega
          have k4 : IntKind.i64.wrap ((t : Int) + 2 - ((s : Int) + 1)) = (t : Int) + 2 - ((s : Int) + 1) := wrap_in (by omega) (by omega)
          have l1 : (s : Int) < (t : Int) + 2 := by omega
          have l2 : ((t + 1 : Nat) : Int) < (t : Int) + 2 := by omega
          have l3 : ((t - s : Nat) : Int) < (t : Int) + 2 := by omega
          have l4 : (1 : Int) ≤ (t : Int) + 2 - ((s : Int) + 1) := by omega
          have l5 : (s : Int) + 1 < (t : Int) + 2 := by omega
          by_cases huv : u = v
          · subst huv
            by_cases hqu : q = u
            · subst hqu
              have e : r = false := by rw [HR.out, fitB_false (fun h => h (s + 1) (by omega) (by omega) (HH.out.2 ⟨rfl, rfl⟩))]
              subst e
              clear HR HH HN hT
              go_wp2_with fail
              go_quiet (fail)
              go_wp2_with fail
              go_ret
              exact ⟨rfl, below_drewN hbel _⟩
            · have hqe : (q == u) = false := by simpa using hqu
              have hno : ¬ hitS xs xs.length (s + 1) := fun h => hqu (HH.out.1 h).2
              have HNN : Hid (∀ x, 1 ≤ x → x < s + 1 + 1 → ¬ hitS xs xs.length x) := fun x g1 g2 => by
                by_cases e : x = s + 1
                · subst e; exact hno
                · exact HN.out x g1 (by omega)
              clear hno HH HN hqu hT
              go_wp2_with fail
              go_quiet (fail)
              go_wp2_with fail
              go_roundw
              case rel => exact ⟨s + 1, by omega, by go_num, HNN, below_drewN hbel _⟩
              case measure => simp [intOf]; omega
          · have huv' : (u == v) = false := by simpa using huv
            have hno : ¬ hitS xs xs.length (s + 1) := fun h => huv (HH.out.1 h).1
            have HNN : Hid (∀ x, 1 ≤ x → x < s + 1 + 1 → ¬ hitS xs xs.length x) := fun x g1 g2 => by
              by_cases e : x = s + 1
              · subst e; exact hno
              · exact HN.out x g1 (by omega)
            clear hno HH HN huv c3 hT
            go_wp2_with fail
            go_quiet (fail)
            go_wp2_with fail
            go_roundw
            case rel => exact ⟨s + 1, by omega, by go_num, HNN, below_drewN hbel _⟩
            case measure => simp [intOf]; omega
      · have e : r = true := by rw [HR.out, fitB_true (fun x h1 h2 => HN.out x h1 (by omega))]
        subst e
        clear HR HN hT HC
        go_wp2_with fail
        go_ret
        exact ⟨rfl, hbel⟩

set_option maxHeartbeats 1600000 in
theorem bad_any (a0 : Option Addr) (c0 : Nat) (xs : List Int) (w : World) (h0 : Ints w a0 c0 xs) (hl : xs.length ≤ 60) :
    Calls Try.prog 270 #[.slice a0 xs.length c0] w fun e w' => e = .returned (.bool (!fitB xs)) ∧ Below w.heap.size w w' := by
  obtain ⟨-, -, -, -, hcs⟩ := h0
  obtain ⟨r, hr⟩ : ∃ r, r = (!fitB xs) := ⟨_, rfl⟩
  rw [← hr]
  have HR := Lib.hid hr
  have HC := Lib.hid hcs
  clear hr hcs
  by_cases hlen : xs.length < 2
  · have e : r = false := by rw [HR.out, fitB_true (fun x h1 h2 => by omega)]; rfl
    subst e
    have hlen' : (xs.length : Int) < 2 := by omega
    clear HR HC
    go_enter Try.func270, Try.ntmps270
    go_wp2_with fail
    refine wp_loop_once ?_
    go_wp2_with fail
    go_ret
    exact ⟨rfl, Below.refl _ _⟩
  · obtain ⟨t, ht⟩ : ∃ t, xs.length = t + 2 := ⟨xs.length - 2, by omega⟩
    have HT := Lib.hid ht
    have hcast : ((t + 2 : Nat) : Int) = (t : Int) + 2 := by omega
    have ht60 : t ≤ 58 := by omega
    rw [ht]
    clear ht hl hlen
    go_enter Try.func270, Try.ntmps270
    go_wp2_with fail
    go_loopw [4] (fun x wr => ∃ s : Nat, 2 * s ≤ t + 2 ∧ x = .int .i64 (s + 1) ∧ Hid (∀ x, 1 ≤ x → x < s + 1 → ¬ hitS xs xs.length x) ∧ Below w.heap.size w wr) (fun x _ => (100 - intOf x).toNat)
    case atStart => exact ⟨0, by omega, rfl, (fun x h1 h2 => by omega), Below.refl _ _⟩
    case round =>
      obtain ⟨s, hs, rfl, HN, hbel⟩ := hrel
      have hT := HT.out
      by_cases h2 : 2 * (s + 1) ≤ t + 2
      · rcases HC.out with hcs | ⟨b, off, rfl, hbB, hcell⟩
        · subst hcs; simp at hT
        · have c1 : wr.cell? ⟨b, off + s, none⟩ = some (.int .i64 (xs[s]'(by omega))) := (hbel.cell (p := ⟨b, off + s, none⟩) hbB).trans (hcell s (by omega))
          have c2 : wr.cell? ⟨b, off + (t + 1), none⟩ = some (.int .i64 (xs[t + 1]'(by omega))) := (hbel.cell (p := ⟨b, off + (t + 1), none⟩) hbB).trans (hcell (t + 1) (by omega))
          have c3 : wr.cell? ⟨b, off + (t - s), none⟩ = some (.int .i64 (xs[t - s]'(by omega))) := (hbel.cell (p := ⟨b, off + (t - s), none⟩) hbB).trans (hcell (t - s) (by omega))
          obtain ⟨u, hu⟩ : ∃ u, u = xs[s]'(by omega) := ⟨_, rfl⟩
          obtain ⟨v, hv⟩ : ∃ v, v = xs[t + 1]'(by omega) := ⟨_, rfl⟩
          obtain ⟨q, hq⟩ : ∃ q, q = xs[t - s]'(by omega) := ⟨_, rfl⟩
          rw [← hu] at c1
          rw [← hv] at c2
          rw [← hq] at c3
          have hhit : hitS xs xs.length (s + 1) ↔ u = v ∧ q = v := by
            unfold hitS
            rw [hT, show s + 1 - 1 = s by omega, show t + 2 - 1 = t + 1 by omega, show t + 2 - (s + 1) - 1 = t - s by omega, List.getElem?_eq_getElem (by omega), List.getElem?_eq_getElem (by omega), List.getElem?_eq_getElem (by omega), Option.some.injEq, Option.some.injEq, ← hu, ← hv, ← hq]
          have HH := Lib.hid hhit
          clear hu hv hq hhit hcell
          have k1 : IntKind.i64.wrap (s : Int) = s := wrap_in (by omega) (by omega)
          have k2 : IntKind.i64.wrap ((t : Int) + 2 - 1) = (t + 1 : Nat) := by rw [wrap_in (by omega) (by omega)]; omega
          have k3 : IntKind.i64.wrap ((t : Int) + 2 - ((s : Int) + 1) - 1) = (t - s : Nat) := by rw [wrap_in (by omega) (by omega)]; omega
          have k4 : IntKind.i64.wrap ((t : Int) + 2 - ((s : Int) + 1)) = (t : Int) + 2 - ((s : Int) + 1) := wrap_in (by omega) (by omega)
          have l1 : (s : Int) < (t : Int) + 2 := by omega
          have l2 : ((t + 1 : Nat) : Int) < (t : Int) + 2 := by omega
          have l3 : ((t - s : Nat) : Int) < (t : Int) + 2 := by omega
          have l4 : (1 : Int) ≤ (t : Int) + 2 - ((s : Int) + 1) := by omega
          have l5 : (s : Int) + 1 < (t : Int) + 2 := by omega
          by_cases huv : u = v
          · subst huv
            by_cases hqu : q = u
            · subst hqu
              have e : r = true := by rw [HR.out, fitB_false (fun h => h (s + 1) (by omega) (by omega) (HH.out.2 ⟨rfl, rfl⟩))]; rfl
              subst e
              clear HR HH HN hT
              go_wp2_with fail
              go_quiet (fail)
              go_wp2_with fail
              go_ret
              exact ⟨rfl, below_drewN hbel _⟩
            · have hqe : (q == u) = false := by simpa using hqu
              have hno : ¬ hitS xs xs.length (s + 1) := fun h => hqu (HH.out.1 h).2
              have HNN : Hid (∀ x, 1 ≤ x → x < s + 1 + 1 → ¬ hitS xs xs.length x) := fun x g1 g2 => by
                by_cases e : x = s + 1
                · subst e; exact hno
                · exact HN.out x g1 (by omega)
              clear hno HH HN hqu hT
              go_wp2_with fail
              go_quiet (fail)
              go_wp2_with fail
              go_roundw
              case rel => exact ⟨s + 1, by omega, by go_num, HNN, below_drewN hbel _⟩
              case measure => simp [intOf]; omega
          · have huv' : (u == v) = false := by simpa using huv
            have hno : ¬ hitS xs xs.length (s + 1) := fun h => huv (HH.out.1 h).1
            have HNN : Hid (∀ x, 1 ≤ x → x < s + 1 + 1 → ¬ hitS xs xs.length x) := fun x g1 g2 => by
              by_cases e : x = s + 1
              · subst e; exact hno
              · exact HN.out x g1 (by omega)
            clear hno HH HN huv c3 hT
            go_wp2_with fail
            go_quiet (fail)
            go_wp2_with fail
            go_roundw
            case rel => exact ⟨s + 1, by omega, by go_num, HNN, below_drewN hbel _⟩
            case measure => simp [intOf]; omega
      · have e : r = false := by rw [HR.out, fitB_true (fun x h1 h2 => HN.out x h1 (by omega))]; rfl
        subst e
        clear HR HN hT HC
        go_wp2_with fail
        go_ret
        exact ⟨rfl, hbel⟩

end Go.Proofs.Ytbidkjhgodkamaa
