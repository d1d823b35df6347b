/-
Contracts of both SchurTriples: the first x, y and x + y of one color, by x + y and then by x. Conditions: lengths at most 2000000.
-/
import Derived.Test.YtbidkjhgodkamaaInts2
namespace Go.Proofs.Ytbidkjhgodkamaa
open Go.RowKit Go.ChangeShapes

/-- x, z - x and z have one color. -/
def hitS (xs : List Int) (z x : Nat) : Prop := xs[x - 1]? = xs[z - 1]? ∧ xs[z - x - 1]? = xs[z - 1]?
/-- No triple ahead of (zz, xx). -/
def SchNo (xs : List Int) (zz xx : Nat) : Prop := ∀ z x, 2 ≤ z → z ≤ xs.length → 1 ≤ x → 2 * x ≤ z → (z < zz ∨ z = zz ∧ x < xx) → ¬ hitS xs z x
def SchAt (xs : List Int) (p : Nat × Nat) : Prop := 2 ≤ p.1 ∧ p.1 ≤ xs.length ∧ 1 ≤ p.2 ∧ 2 * p.2 ≤ p.1 ∧ hitS xs p.1 p.2 ∧ SchNo xs p.1 p.2

open Classical in
/-- The first triple. -/
noncomputable def schv (xs : List Int) : Option (Nat × Nat) := if h : ∃ p, SchAt xs p then some h.choose else none

theorem schv_some {xs : List Int} {z x : Nat} (h : SchAt xs (z, x)) : schv xs = some (z, x) := by
  have hex : ∃ p, SchAt xs p := ⟨_, h⟩
  unfold schv
  rw [dif_pos hex]
  have h2 := hex.choose_spec
  generalize hex.choose = q at h2
  obtain ⟨z', x'⟩ := q
  obtain ⟨a1, a2, a3, a4, a5, a6⟩ := h
  obtain ⟨b1, b2, b3, b4, b5, b6⟩ := h2
  have n1 : ¬ (z < z' ∨ z = z' ∧ x < x') := fun hh => b6 z x a1 a2 a3 a4 hh a5
  have n2 : ¬ (z' < z ∨ z' = z ∧ x' < x) := fun hh => a6 z' x' b1 b2 b3 b4 hh b5
  have e1 : z' = z := by omega
  have e2 : x' = x := by omega
  rw [e1, e2]
theorem schv_none {xs : List Int} (h : SchNo xs (xs.length + 1) 0) : schv xs = none := by
  unfold schv
  rw [dif_neg]
  rintro ⟨⟨z, x⟩, b1, b2, b3, b4, b5, b6⟩
  exact h z x b1 b2 b3 b4 (by left; simp at b2; omega) b5

/-- What both return. -/
noncomputable def schL (xs : List Int) : List Int := if 40 < xs.length then [] else match schv xs with
  | some (z, x) => [(x : Int), (z : Int) - x, z]
  | none => []
noncomputable def schB (xs : List Int) : Bool := if 40 < xs.length then false else (schv xs).isSome
theorem schL_len (xs : List Int) : (schL xs).length ≤ 3 := by
  unfold schL
  split
  · simp
  · split <;> simp

theorem SchNo.start (xs : List Int) : SchNo xs 2 1 := fun z x h1 _ h3 _ h5 => by omega
theorem SchNo.x {xs : List Int} {z x : Nat} (h : SchNo xs z x) (hn : ¬ hitS xs z x) : SchNo xs z (x + 1) := by
  intro z' x' h1 h2 h3 h4 h5
  by_cases e : z' = z ∧ x' = x
  · rw [e.1, e.2]; exact hn
  · exact h z' x' h1 h2 h3 h4 (by omega)
theorem SchNo.z {xs : List Int} {z x : Nat} (h : SchNo xs z x) (hx : z < 2 * x) : SchNo xs (z + 1) 1 := by
  intro z' x' h1 h2 h3 h4 h5
  exact h z' x' h1 h2 h3 h4 (by omega)

set_option maxHeartbeats 1600000 in
theorem sch_impl (a0 : Option Addr) (c0 : Nat) (xs : List Int) (w : World) (h0 : Ints w a0 c0 xs) (hl : xs.length ≤ 2000000) :
    Calls Try.prog 102 #[.slice a0 xs.length c0] w (GaveIB w (schL xs) (schB xs)) := by
  obtain ⟨-, -, -, -, hcs⟩ := h0
  by_cases h40 : 40 < xs.length
  · have e1 : schL xs = [] := by simp [schL, h40]
    have e2 : schB xs = false := by simp [schB, h40]
    rw [e1, e2]
    have hm := OwnI.made w w.heap.size (Nat.le_refl _)
    clear e1 e2 hcs
    go_enter Try.func102, Try.ntmps102
    go_wp2_with fail
    go_ret2
    exact ⟨_, _, rfl, hm, (Below.refl _ _).alloc (Nat.le_refl _) _⟩
  · obtain ⟨rl, hrl⟩ : ∃ r, r = schL xs := ⟨_, rfl⟩
    obtain ⟨rb, hrb⟩ : ∃ r, r = schB xs := ⟨_, rfl⟩
    rw [← hrl, ← hrb]
    have hrl' : rl = match schv xs with
      | some (z, x) => [(x : Int), (z : Int) - x, z]
      | none => [] := by rw [hrl, schL, if_neg h40]
    have hrb' : rb = (schv xs).isSome := by rw [hrb, schB, if_neg h40]
    have HL := Lib.hid hrl'
    have HB := Lib.hid hrb'
    have HC := Lib.hid hcs
    have hc40 : (xs.length : Int) ≤ 40 := by omega
    clear hrl hrb hrl' hrb' hcs
    go_enter Try.func102, Try.ntmps102
    go_wp2_with fail
    go_loopw [4] (fun z wr => ∃ t : Nat, t ≤ 40 ∧ z = .int .i64 (t + 2) ∧ Hid (SchNo xs (t + 2) 1) ∧ Below w.heap.size w wr) (fun z _ => (100 - intOf z).toNat)
    case atStart => exact ⟨0, by omega, rfl, SchNo.start xs, Below.refl _ _⟩
    case round =>
      obtain ⟨t, ht, rfl, HN, hbel⟩ := hrel
      by_cases hlt : t + 2 ≤ xs.length
      · obtain ⟨wo, rfl⟩ : ∃ wo : World, wo = wr := ⟨_, rfl⟩
        go_wp2_with fail
        go_loopw [5] (fun x wr => ∃ s : Nat, 2 * s ≤ t + 2 ∧ x = .int .i64 (s + 1) ∧ Hid (SchNo xs (t + 2) (s + 1)) ∧ Below w.heap.size w wr) (fun x _ => (100 - intOf x).toNat)
        case atStart => exact ⟨0, by omega, rfl, HN, hbel⟩
        case round =>
          obtain ⟨s, hs, rfl, HN', hbel'⟩ := hrel
          clear hbel HN
          by_cases h2 : 2 * (s + 1) ≤ t + 2
          · rcases HC.out with hcs | ⟨b, off, rfl, hbB, hcell⟩
            · subst hcs; simp at hlt
            · have c1 : wr.cell? ⟨b, off + s, none⟩ = some (.int .i64 (xs[s]'(by omega))) := (hbel'.cell (p := ⟨b, off + s, none⟩) hbB).trans (hcell s (by omega))
              have c2 : wr.cell? ⟨b, off + (t + 1), none⟩ = some (.int .i64 (xs[t + 1]'(by omega))) := (hbel'.cell (p := ⟨b, off + (t + 1), none⟩) hbB).trans (hcell (t + 1) (by omega))
              have c3 : wr.cell? ⟨b, off + (t - s), none⟩ = some (.int .i64 (xs[t - s]'(by omega))) := (hbel'.cell (p := ⟨b, off + (t - s), none⟩) hbB).trans (hcell (t - s) (by omega))
              obtain ⟨u, hu⟩ : ∃ u, u = xs[s]'(by omega) := ⟨_, rfl⟩
              obtain ⟨v, hv⟩ : ∃ v, v = xs[t + 1]'(by omega) := ⟨_, rfl⟩
              obtain ⟨q, hq⟩ : ∃ q, q = xs[t - s]'(by omega) := ⟨_, rfl⟩
              rw [← hu] at c1
              rw [← hv] at c2
              rw [← hq] at c3
              have hhit : hitS xs (t + 2) (s + 1) ↔ u = v ∧ q = v := by
                unfold hitS
                rw [show s + 1 - 1 = s by omega, show t + 2 - 1 = t + 1 by omega, show t + 2 - (s + 1) - 1 = t - s by omega, List.getElem?_eq_getElem (by omega), List.getElem?_eq_getElem (by omega), List.getElem?_eq_getElem (by omega), Option.some.injEq, Option.some.injEq, ← hu, ← hv, ← hq]
              have HH := Lib.hid hhit
              clear hu hv hq hhit hcell
              by_cases huv : u = v
              · subst huv
                have k1 : IntKind.i64.wrap (s : Int) = s := wrap_in (by omega) (by omega)
                have k2 : IntKind.i64.wrap ((t : Int) + 2 - 1) = (t + 1 : Nat) := by rw [wrap_in (by omega) (by omega)]; omega
                have k3 : IntKind.i64.wrap ((t : Int) + 2 - ((s : Int) + 1) - 1) = (t - s : Nat) := by rw [wrap_in (by omega) (by omega)]; omega
                have k4 : IntKind.i64.wrap ((t : Int) + 2 - ((s : Int) + 1)) = (t : Int) + 2 - ((s : Int) + 1) := wrap_in (by omega) (by omega)
                have l1 : (s : Int) < xs.length := by omega
                have l2 : ((t + 1 : Nat) : Int) < xs.length := by omega
                have l3 : ((t - s : Nat) : Int) < xs.length := by omega
                by_cases hqu : q = u
                · subst hqu
                  have hat : SchAt xs (t + 2, s + 1) := ⟨by simp, hlt, by simp, by simpa using h2, HH.out.2 ⟨rfl, rfl⟩, HN'.out⟩
                  have e := schv_some hat
                  have e1 : rl = [(s : Int) + 1, (t : Int) + 2 - ((s : Int) + 1), (t : Int) + 2] := by rw [HL.out, e]; simp
                  have e2 : rb = true := by rw [HB.out, e]; rfl
                  subst e1
                  subst e2
                  clear e hat HL HB HH HN'
                  go_wp2_with fail
                  go_quiet (fail)
                  go_wp2_with fail
                  go_ret2
                  have hbq := below_drewN hbel' nq
                  exact ⟨_, _, rfl, OwnI.lit3 _ _ _ _ _ hbq.size (wf_of (by omega) (by omega)) (wf_of (by omega) (by omega)) (wf_of (by omega) (by omega)), hbq.alloc hbq.size _⟩
                · have hqe : (q == u) = false := by simpa using hqu
                  have hno : ¬ hitS xs (t + 2) (s + 1) := fun h => hqu (HH.out.1 h).2
                  have HNN : Hid (SchNo xs (t + 2) (s + 1 + 1)) := HN'.out.x hno
                  clear hno HH HN' hqu
                  go_wp2_with fail
                  go_quiet (fail)
                  go_wp2_with fail
                  go_roundw
                  case rel => exact ⟨s + 1, by omega, by go_num, HNN, below_drewN hbel' _⟩
                  case measure => simp [intOf]; omega
              · have huv' : (u == v) = false := by simpa using huv
                have hno : ¬ hitS xs (t + 2) (s + 1) := fun h => huv (HH.out.1 h).1
                have HNN : Hid (SchNo xs (t + 2) (s + 1 + 1)) := HN'.out.x hno
                clear hno HH HN' huv c3
                have k1 : IntKind.i64.wrap (s : Int) = s := wrap_in (by omega) (by omega)
                have k2 : IntKind.i64.wrap ((t : Int) + 2 - 1) = (t + 1 : Nat) := by rw [wrap_in (by omega) (by omega)]; omega
                have k3 : IntKind.i64.wrap ((t : Int) + 2 - ((s : Int) + 1) - 1) = (t - s : Nat) := by rw [wrap_in (by omega) (by omega)]; omega
                have k4 : IntKind.i64.wrap ((t : Int) + 2 - ((s : Int) + 1)) = (t : Int) + 2 - ((s : Int) + 1) := wrap_in (by omega) (by omega)
                have l1 : (s : Int) < xs.length := by omega
                have l2 : ((t + 1 : Nat) : Int) < xs.length := by omega
                have l3 : ((t - s : Nat) : Int) < xs.length := by omega
                go_wp2_with fail
                go_quiet (fail)
                go_wp2_with fail
                go_roundw
                case rel => exact ⟨s + 1, by omega, by go_num, HNN, below_drewN hbel' _⟩
                case measure => simp [intOf]; omega
          · have HNN : Hid (SchNo xs (t + 2 + 1) 1) := HN'.out.z (by omega)
            go_wp2_with fail
            go_roundw
            case rel => exact ⟨t + 1, by omega, by go_num, HNN, hbel'⟩
            case measure => simp [intOf]; omega
      · have hn : SchNo xs (xs.length + 1) 0 := fun z x g1 g2 g3 g4 g5 => HN.out z x g1 g2 g3 g4 (by omega)
        have e := schv_none hn
        have e1 : rl = [] := by rw [HL.out, e]
        have e2 : rb = false := by rw [HB.out, e]; rfl
        have hm := OwnI.made wr w.heap.size hbel.size
        have hb2 := hbel.alloc hbel.size (.cells #[] 3)
        subst e1
        subst e2
        clear e HL HB hn HN
        go_wp2_with fail
        go_ret2
        exact ⟨_, _, rfl, hm, hb2⟩

set_option maxHeartbeats 1600000 in
theorem sch_spec (a0 : Option Addr) (c0 : Nat) (xs : List Int) (w : World) (h0 : Ints w a0 c0 xs) (hl : xs.length ≤ 2000000) :
    Calls Try.prog 103 #[.slice a0 xs.length c0] w (GaveIB w (schL xs) (schB xs)) := by
  obtain ⟨-, -, -, -, hcs⟩ := h0
  by_cases h40 : 40 < xs.length
  · have e1 : schL xs = [] := by simp [schL, h40]
    have e2 : schB xs = false := by simp [schB, h40]
    rw [e1, e2]
    have hm := OwnI.made w w.heap.size (Nat.le_refl _)
    clear e1 e2 hcs
    have hc40 : ¬ (xs.length : Int) ≤ 40 := by omega
    have hc2 : (2 : Int) ≤ xs.length := by omega
    go_enter Try.func103, Try.ntmps103
    go_wp2_with fail
    refine wp_loop_once ?_
    go_wp2_with fail
    go_ret2
    exact ⟨_, _, rfl, hm, (Below.refl _ _).alloc (Nat.le_refl _) _⟩
  · obtain ⟨rl, hrl⟩ : ∃ r, r = schL xs := ⟨_, rfl⟩
    obtain ⟨rb, hrb⟩ : ∃ r, r = schB xs := ⟨_, rfl⟩
    rw [← hrl, ← hrb]
    have hrl' : rl = match schv xs with
      | some (z, x) => [(x : Int), (z : Int) - x, z]
      | none => [] := by rw [hrl, schL, if_neg h40]
    have hrb' : rb = (schv xs).isSome := by rw [hrb, schB, if_neg h40]
    have HL := Lib.hid hrl'
    have HB := Lib.hid hrb'
    have HC := Lib.hid hcs
    have hc40 : (xs.length : Int) ≤ 40 := by omega
    clear hrl hrb hrl' hrb' hcs
    go_enter Try.func103, Try.ntmps103
    go_wp2_with fail
    go_loopw [4] (fun z wr => ∃ t : Nat, t ≤ 40 ∧ z = .int .i64 (t + 2) ∧ Hid (SchNo xs (t + 2) 1) ∧ Below w.heap.size w wr) (fun z _ => (100 - intOf z).toNat)
    case atStart => exact ⟨0, by omega, rfl, SchNo.start xs, Below.refl _ _⟩
    case round =>
      obtain ⟨t, ht, rfl, HN, hbel⟩ := hrel
      by_cases hlt : t + 2 ≤ xs.length
      · obtain ⟨wo, rfl⟩ : ∃ wo : World, wo = wr := ⟨_, rfl⟩
        go_wp2_with fail
        go_loopw [5] (fun x wr => ∃ s : Nat, 2 * s ≤ t + 2 ∧ x = .int .i64 (s + 1) ∧ Hid (SchNo xs (t + 2) (s + 1)) ∧ Below w.heap.size w wr) (fun x _ => (100 - intOf x).toNat)
        case atStart => exact ⟨0, by omega, rfl, HN, hbel⟩
        case round =>
          obtain ⟨s, hs, rfl, HN', hbel'⟩ := hrel
          clear hbel HN
          by_cases h2 : 2 * (s + 1) ≤ t + 2
          · rcases HC.out with hcs | ⟨b, off, rfl, hbB, hcell⟩
            · subst hcs; simp at hlt
            · have c1 : wr.cell? ⟨b, off + s, none⟩ = some (.int .i64 (xs[s]'(by omega))) := (hbel'.cell (p := ⟨b, off + s, none⟩) hbB).trans (hcell s (by omega))
              have c2 : wr.cell? ⟨b, off + (t + 1), none⟩ = some (.int .i64 (xs[t + 1]'(by omega))) := (hbel'.cell (p := ⟨b, off + (t + 1), none⟩) hbB).trans (hcell (t + 1) (by omega))
              have c3 : wr.cell? ⟨b, off + (t - s), none⟩ = some (.int .i64 (xs[t - s]'(by omega))) := (hbel'.cell (p := ⟨b, off + (t - s), none⟩) hbB).trans (hcell (t - s) (by omega))
              obtain ⟨u, hu⟩ : ∃ u, u = xs[s]'(by omega) := ⟨_, rfl⟩
              obtain ⟨v, hv⟩ : ∃ v, v = xs[t + 1]'(by omega) := ⟨_, rfl⟩
              obtain ⟨q, hq⟩ : ∃ q, q = xs[t - s]'(by omega) := ⟨_, rfl⟩
              rw [← hu] at c1
              rw [← hv] at c2
              rw [← hq] at c3
              have hhit : hitS xs (t + 2) (s + 1) ↔ u = v ∧ q = v := by
                unfold hitS
                rw [show s + 1 - 1 = s by omega, show t + 2 - 1 = t + 1 by omega, show t + 2 - (s + 1) - 1 = t - s by omega, List.getElem?_eq_getElem (by omega), List.getElem?_eq_getElem (by omega), List.getElem?_eq_getElem (by omega), Option.some.injEq, Option.some.injEq, ← hu, ← hv, ← hq]
              have HH := Lib.hid hhit
              clear hu hv hq hhit hcell
              by_cases huv : u = v
              · subst huv
                have k1 : IntKind.i64.wrap (s : Int) = s := wrap_in (by omega) (by omega)
                have k2 : IntKind.i64.wrap ((t : Int) + 2 - 1) = (t + 1 : Nat) := by rw [wrap_in (by omega) (by omega)]; omega
                have k3 : IntKind.i64.wrap ((t : Int) + 2 - ((s : Int) + 1) - 1) = (t - s : Nat) := by rw [wrap_in (by omega) (by omega)]; omega
                have k4 : IntKind.i64.wrap ((t : Int) + 2 - ((s : Int) + 1)) = (t : Int) + 2 - ((s : Int) + 1) := wrap_in (by omega) (by omega)
                have l1 : (s : Int) < xs.length := by omega
                have l2 : ((t + 1 : Nat) : Int) < xs.length := by omega
                have l3 : ((t - s : Nat) : Int) < xs.length := by omega
                by_cases hqu : q = u
                · subst hqu
                  have hat : SchAt xs (t + 2, s + 1) := ⟨by simp, hlt, by simp, by simpa using h2, HH.out.2 ⟨rfl, rfl⟩, HN'.out⟩
                  have e := schv_some hat
                  have e1 : rl = [(s : Int) + 1, (t : Int) + 2 - ((s : Int) + 1), (t : Int) + 2] := by rw [HL.out, e]; simp
                  have e2 : rb = true := by rw [HB.out, e]; rfl
                  subst e1
                  subst e2
                  clear e hat HL HB HH HN'
                  go_wp2_with fail
                  go_quiet (fail)
                  go_wp2_with fail
                  go_ret2
                  have hbq := below_drewN hbel' nq
                  exact ⟨_, _, rfl, OwnI.lit3 _ _ _ _ _ hbq.size (wf_of (by omega) (by omega)) (wf_of (by omega) (by omega)) (wf_of (by omega) (by omega)), hbq.alloc hbq.size _⟩
                · have hqe : (q == u) = false := by simpa using hqu
                  have hno : ¬ hitS xs (t + 2) (s + 1) := fun h => hqu (HH.out.1 h).2
                  have HNN : Hid (SchNo xs (t + 2) (s + 1 + 1)) := HN'.out.x hno
                  clear hno HH HN' hqu
                  go_wp2_with fail
                  go_quiet (fail)
                  go_wp2_with fail
                  go_roundw
                  case rel => exact ⟨s + 1, by omega, by go_num, HNN, below_drewN hbel' _⟩
                  case measure => simp [intOf]; omega
              · have huv' : (u == v) = false := by simpa using huv
                have hno : ¬ hitS xs (t + 2) (s + 1) := fun h => huv (HH.out.1 h).1
                have HNN : Hid (SchNo xs (t + 2) (s + 1 + 1)) := HN'.out.x hno
                clear hno HH HN' huv c3
                have k1 : IntKind.i64.wrap (s : Int) = s := wrap_in (by omega) (by omega)
                have k2 : IntKind.i64.wrap ((t : Int) + 2 - 1) = (t + 1 : Nat) := by rw [wrap_in (by omega) (by omega)]; omega
                have k3 : IntKind.i64.wrap ((t : Int) + 2 - ((s : Int) + 1) - 1) = (t - s : Nat) := by rw [wrap_in (by omega) (by omega)]; omega
                have k4 : IntKind.i64.wrap ((t : Int) + 2 - ((s : Int) + 1)) = (t : Int) + 2 - ((s : Int) + 1) := wrap_in (by omega) (by omega)
                have l1 : (s : Int) < xs.length := by omega
                have l2 : ((t + 1 : Nat) : Int) < xs.length := by omega
                have l3 : ((t - s : Nat) : Int) < xs.length := by omega
                go_wp2_with fail
                go_quiet (fail)
                go_wp2_with fail
                go_roundw
                case rel => exact ⟨s + 1, by omega, by go_num, HNN, below_drewN hbel' _⟩
                case measure => simp [intOf]; omega
          · have HNN : Hid (SchNo xs (t + 2 + 1) 1) := HN'.out.z (by omega)
            go_wp2_with fail
            go_roundw
            case rel => exact ⟨t + 1, by omega, by go_num, HNN, hbel'⟩
            case measure => simp [intOf]; omega
      · have hn : SchNo xs (xs.length + 1) 0 := fun z x g1 g2 g3 g4 g5 => HN.out z x g1 g2 g3 g4 (by omega)
        have e := schv_none hn
        have e1 : rl = [] := by rw [HL.out, e]
        have e2 : rb = false := by rw [HB.out, e]; rfl
        have hm := OwnI.made wr w.heap.size hbel.size
        have hb2 := hbel.alloc hbel.size (.cells #[] 3)
        subst e1
        subst e2
        clear e HL HB hn HN
        go_wp2_with fail
        go_ret2
        exact ⟨_, _, rfl, hm, hb2⟩

end Go.Proofs.Ytbidkjhgodkamaa
