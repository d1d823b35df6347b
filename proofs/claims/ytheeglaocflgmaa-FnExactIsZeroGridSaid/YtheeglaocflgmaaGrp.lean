/-
Groups: contracts of both IsGroups, of OrderOf and l2Order, and of the laws' helpers on groups. Conditions: lists of at most 2000000 orders.
-/
import Derived.Test.YtheeglaocflgmaaInts2
import Derived.Test.YtheeglaocflgmaaHelp
namespace Go.Proofs.Ytheeglaocflgmaa
open Go.RowKit Go.ChangeShapes

/-- The product of the orders. -/
def gord : List Int → Int
  | [] => 1
  | o :: t => o * gord t
def ordsIn (os : List Int) : Bool := os.all fun o => inB o 2 24
/-- At most three orders from 2 to 24 with a product of at most 24. -/
def grpB (os : List Int) : Bool := decide (os.length ≤ 3) && ordsIn os && decide (gord os ≤ 24)

theorem gord_snoc (l : List Int) (o : Int) : gord (l ++ [o]) = gord l * o := by
  induction l with
  | nil => simp [gord]
  | cons a t ih => simp only [List.cons_append, gord, ih, Int.mul_assoc]
theorem gord_take {os : List Int} {k : Nat} (h : k < os.length) : gord (os.take (k + 1)) = gord (os.take k) * os[k] := by
  rw [List.take_succ_eq_append_getElem h, gord_snoc]
theorem gord_bd : ∀ (l : List Int), ordsIn l = true → l.length ≤ 3 → 1 ≤ gord l ∧ gord l ≤ 13824
  | [], _, _ => by decide
  | [a], h, _ => by
    simp [ordsIn, inB] at h
    simp [gord]; omega
  | [a, b], h, _ => by
    simp [ordsIn, inB] at h
    obtain ⟨⟨a1, a2⟩, b1, b2⟩ := h
    have h1 : 1 * 1 ≤ a * b := Int.mul_le_mul (by omega) (by omega) (by omega) (by omega)
    have h2 : a * b ≤ 24 * 24 := Int.mul_le_mul (by omega) (by omega) (by omega) (by omega)
    simp [gord]; omega
  | [a, b, c], h, _ => by
    simp [ordsIn, inB] at h
    obtain ⟨⟨a1, a2⟩, ⟨b1, b2⟩, c1, c2⟩ := h
    have h1 : 1 * 1 ≤ b * c := Int.mul_le_mul (by omega) (by omega) (by omega) (by omega)
    have h2 : b * c ≤ 24 * 24 := Int.mul_le_mul (by omega) (by omega) (by omega) (by omega)
    have h3 : 1 * 1 ≤ a * (b * c) := Int.mul_le_mul (by omega) (by omega) (by omega) (by omega)
    have h4 : a * (b * c) ≤ 24 * 576 := Int.mul_le_mul (by omega) (by omega) (by omega) (by omega)
    simp [gord]; omega
  | _ :: _ :: _ :: _ :: _, _, h => by simp at h
theorem ordsIn_take {os : List Int} (k : Nat) (h : ordsIn os = true) : ordsIn (os.take k) = true := by
  simp only [ordsIn, List.all_eq_true] at *
  exact fun x hx => h x (List.mem_of_mem_take hx)
theorem ordsIn_snoc {os : List Int} {k : Nat} (hk : k < os.length) (h : ordsIn (os.take k) = true) (hx : inB os[k] 2 24 = true) : ordsIn (os.take (k + 1)) = true := by
  rw [List.take_succ_eq_append_getElem hk]
  simp only [ordsIn, List.all_append, List.all_cons, List.all_nil, Bool.and_true] at *
  rw [h, hx]; rfl
theorem ordsIn_no {os : List Int} {k : Nat} (hk : k < os.length) (hx : inB os[k] 2 24 = false) : ordsIn os = false := by
  simp only [ordsIn, List.all_eq_false]
  exact ⟨os[k], List.getElem_mem hk, by simp [hx]⟩

/-- A box of one cell reads as it was laid, in every later world. -/
theorem box_cell {w w1 : World} {B : Nat} {v : Value} {T : TypeId} (hb : Below B (w.alloc (.cells #[v] T)) w1) (hB : w.heap.size < B) : w1.cell? ⟨w.heap.size, 0, none⟩ = some v := by
  rw [hb.cell (p := ⟨w.heap.size, 0, none⟩) hB]
  simp

set_option maxHeartbeats 800000 in
theorem isGroup_impl (a0 : Option Addr) (c0 : Nat) (os : List Int) (w : World) (h0 : Ints w a0 c0 os) (hl : os.length ≤ 2000000) :
    Calls Try.prog 87 #[.agg #[.slice a0 os.length c0]] w fun e w' => e = .returned (.bool (grpB os)) ∧ Below w.heap.size w w' := by
  have h0' := h0.below ((Below.refl w.heap.size w).alloc (Nat.le_refl _) (.cells #[.slice a0 os.length c0] 46)) (Nat.le_refl _)
  obtain ⟨-, -, -, -, hcs⟩ := h0
  have HC := Lib.hid hcs
  clear hcs h0'
  obtain ⟨r, hr⟩ : ∃ r, r = grpB os := ⟨_, rfl⟩
  have HR := Lib.hid hr
  rw [← hr]
  clear hr
  by_cases h3 : 3 < os.length
  · have e : r = false := by rw [HR.out]; simp [grpB]; omega
    subst e
    clear HC HR
    go_enter Try.func87, Try.ntmps87
    go_wp2_with fail
    go_ret
    exact ⟨rfl, (Below.refl _ _).alloc (Nat.le_refl _) _⟩
  · go_enter Try.func87, Try.ntmps87
    go_wp2_with fail
    go_loop [3, 13] (fun n i => ∃ k : Nat, k ≤ os.length ∧ i = .int .i64 k ∧ n = .int .i64 (gord (os.take k)) ∧ Hid (ordsIn (os.take k) = true)) (fun _ i => os.length - (intOf i).toNat)
    case atStart => exact ⟨0, by omega, rfl, by simp [gord], rfl⟩
    case round =>
      obtain ⟨k, hk, rfl, rfl, HO⟩ := hrel
      by_cases hlt : k < os.length
      · rcases HC.out with hcs | ⟨b, off, rfl, hbB, hcell⟩
        · subst hcs; simp at hlt
        · have c1 : (w.alloc (.cells #[.slice (some ⟨b, off, none⟩) os.length c0] 46)).cell? ⟨b, off + k, none⟩ = some (.int .i64 os[k]) := by rw [World.cell?_alloc_past _ _ _ hbB]; exact hcell k hlt
          have hg := gord_take hlt
          obtain ⟨x, hx⟩ : ∃ x, x = os[k] := ⟨_, rfl⟩
          rw [← hx] at c1 hg
          obtain ⟨n, hn⟩ : ∃ n, n = gord (os.take k) := ⟨_, rfl⟩
          rw [← hn] at hg ⊢
          cases hin : inB x 2 24 with
          | false =>
            have e : r = false := by rw [HR.out]; simp only [grpB]; rw [ordsIn_no hlt (by rw [← hx]; exact hin)]; simp
            subst e
            have HI := Lib.hid hin
            clear hin hx hn hg HR HC HO hcell
            go_wp2_with (go_at_call 51; refine (within_is x 2 24 false HI.out _).mono ?_; rintro e w' ⟨rfl, rfl⟩)
            go_ret
            exact ⟨rfl, (Below.refl _ _).alloc (Nat.le_refl _) _⟩
          | true =>
            have ho := ordsIn_snoc hlt HO.out (by rw [← hx]; exact hin)
            have hbd := gord_bd _ ho (by simp; omega)
            rw [hg] at hbd
            have HG := Lib.hid hg
            have HOO := Lib.hid ho
            have HI := Lib.hid hin
            clear hin hx hn hg ho HO hcell
            go_wp2_with (go_at_call 51; refine (within_is x 2 24 true HI.out _).mono ?_; rintro e w' ⟨rfl, rfl⟩)
            go_round
            case rel => exact ⟨k + 1, by omega, by go_num, by rw [HG.out], HOO⟩
            case measure => simp [intOf]; omega
      · obtain rfl : k = os.length := by omega
        rw [List.take_length] at *
        have e : r = decide (gord os ≤ 24) := by rw [HR.out]; simp only [grpB]; rw [HO.out]; simp; omega
        have HE := Lib.hid e
        clear e HR HC HO
        go_wp2_with fail
        go_ret
        exact ⟨ret_bool HE.out.symm, (Below.refl _ _).alloc (Nat.le_refl _) _⟩

set_option maxHeartbeats 800000 in
theorem isGroup_spec (a0 : Option Addr) (c0 : Nat) (os : List Int) (w : World) (h0 : Ints w a0 c0 os) (hl : os.length ≤ 2000000) :
    Calls Try.prog 85 #[.agg #[.slice a0 os.length c0]] w fun e w' => e = .returned (.bool (grpB os)) ∧ Below w.heap.size w w' := by
  obtain ⟨-, -, -, -, hcs⟩ := h0
  have HC := Lib.hid hcs
  clear hcs
  obtain ⟨r, hr⟩ : ∃ r, r = grpB os := ⟨_, rfl⟩
  have HR := Lib.hid hr
  rw [← hr]
  clear hr
  go_enter Try.func85, Try.ntmps85
  go_wp2_with fail
  go_loop [3, 4] (fun n i => ∃ k : Nat, k ≤ os.length ∧ k ≤ 3 ∧ i = .int .i64 k ∧ n = .int .i64 (gord (os.take k)) ∧ Hid (ordsIn (os.take k) = true)) (fun _ i => os.length - (intOf i).toNat)
  case atStart => exact ⟨0, by omega, by omega, rfl, by simp [gord], rfl⟩
  case round =>
    obtain ⟨k, hk, hk3, rfl, rfl, HO⟩ := hrel
    by_cases hlt : k < os.length
    · rcases HC.out with hcs | ⟨b, off, rfl, hbB, hcell⟩
      · subst hcs; simp at hlt
      · have c1 : (w.alloc (.cells #[.slice (some ⟨b, off, none⟩) os.length c0] 46)).cell? ⟨b, off + k, none⟩ = some (.int .i64 os[k]) := by rw [World.cell?_alloc_past _ _ _ hbB]; exact hcell k hlt
        have hg := gord_take hlt
        obtain ⟨x, hx⟩ : ∃ x, x = os[k] := ⟨_, rfl⟩
        rw [← hx] at c1 hg
        obtain ⟨n, hn⟩ : ∃ n, n = gord (os.take k) := ⟨_, rfl⟩
        rw [← hn] at hg ⊢
        cases hin : inB x 2 24 with
        | false =>
          have e : r = false := by rw [HR.out]; simp only [grpB]; rw [ordsIn_no hlt (by rw [← hx]; exact hin)]; simp
          subst e
          have HI := Lib.hid hin
          clear hin hx hn hg HR HC HO hcell
          go_wp2_with (go_at_call 49; refine (l1In_is x 2 24 false HI.out _).mono ?_; rintro e w' ⟨rfl, rfl⟩)
          go_ret
          exact ⟨rfl, (Below.refl _ _).alloc (Nat.le_refl _) _⟩
        | true =>
          have ho := ordsIn_snoc hlt HO.out (by rw [← hx]; exact hin)
          have HG := Lib.hid hg
          have HOO := Lib.hid ho
          have HI := Lib.hid hin
          by_cases h2 : 2 < k
          · have e : r = false := by rw [HR.out]; simp [grpB]; omega
            subst e
            clear hin hx hn hg ho HR HC HO hcell
            go_wp2_with (go_at_call 49; refine (l1In_is x 2 24 true HI.out _).mono ?_; rintro e w' ⟨rfl, rfl⟩)
            go_ret
            exact ⟨rfl, (Below.refl _ _).alloc (Nat.le_refl _) _⟩
          · have hbd := gord_bd _ ho (by simp; omega)
            rw [hg] at hbd
            clear hin hx hn hg ho HO hcell
            go_wp2_with (go_at_call 49; refine (l1In_is x 2 24 true HI.out _).mono ?_; rintro e w' ⟨rfl, rfl⟩)
            go_round
            case rel => exact ⟨k + 1, by omega, by omega, by go_num, by rw [HG.out], HOO⟩
            case measure => simp [intOf]; omega
    · obtain rfl : k = os.length := by omega
      rw [List.take_length] at *
      have e : r = decide (gord os ≤ 24) := by rw [HR.out]; simp only [grpB]; rw [HO.out]; simp; omega
      have HE := Lib.hid e
      clear e HR HC HO
      go_wp2_with fail
      go_ret
      exact ⟨ret_bool HE.out.symm, (Below.refl _ _).alloc (Nat.le_refl _) _⟩

theorem grp_parts {os : List Int} (h : grpB os = true) : os.length ≤ 3 ∧ ordsIn os = true ∧ 1 ≤ gord os ∧ gord os ≤ 24 := by
  simp only [grpB, Bool.and_eq_true, decide_eq_true_eq] at h
  obtain ⟨⟨h1, h2⟩, h3⟩ := h
  exact ⟨h1, h2, (gord_bd os h2 h1).1, h3⟩

set_option maxHeartbeats 800000 in
theorem l2Order_any (a0 : Option Addr) (c0 : Nat) (os : List Int) (w : World) (h0 : Ints w a0 c0 os) (hg0 : grpB os = true) :
    Calls Try.prog 86 #[.agg #[.slice a0 os.length c0]] w fun e w' => e = .returned (.int .i64 (gord os)) ∧ Below w.heap.size w w' := by
  obtain ⟨-, -, -, -, hcs⟩ := h0
  obtain ⟨g1, g2, g3, g4⟩ := grp_parts hg0
  have HC := Lib.hid hcs
  have HO := Lib.hid g2
  clear hcs hg0 g2
  go_enter Try.func86, Try.ntmps86
  go_wp2_with fail
  go_loop [3, 4] (fun n i => ∃ k : Nat, k ≤ os.length ∧ i = .int .i64 k ∧ n = .int .i64 (gord (os.take k))) (fun _ i => os.length - (intOf i).toNat)
  case atStart => exact ⟨0, by omega, rfl, by simp [gord]⟩
  case round =>
    obtain ⟨k, hk, rfl, rfl⟩ := hrel
    by_cases hlt : k < os.length
    · rcases HC.out with hcs | ⟨b, off, rfl, hbB, hcell⟩
      · subst hcs; simp at hlt
      · have c1 : (w.alloc (.cells #[.slice (some ⟨b, off, none⟩) os.length c0] 46)).cell? ⟨b, off + k, none⟩ = some (.int .i64 os[k]) := by rw [World.cell?_alloc_past _ _ _ hbB]; exact hcell k hlt
        have hg := gord_take hlt
        have hbd := gord_bd _ (ordsIn_take (k + 1) HO.out) (by simp; omega)
        obtain ⟨x, hx⟩ : ∃ x, x = os[k] := ⟨_, rfl⟩
        rw [← hx] at c1 hg
        obtain ⟨n, hn⟩ : ∃ n, n = gord (os.take k) := ⟨_, rfl⟩
        rw [← hn] at hg ⊢
        rw [hg] at hbd
        have HG := Lib.hid hg
        clear hx hn hg hcell
        go_wp2_with fail
        go_round
        case rel => exact ⟨k + 1, by omega, by go_num, by rw [HG.out]⟩
        case measure => simp [intOf]; omega
    · obtain rfl : k = os.length := by omega
      rw [List.take_length] at *
      clear HC HO
      go_wp2_with fail
      go_ret
      exact ⟨rfl, (Below.refl _ _).alloc (Nat.le_refl _) _⟩

theorem Ints.drew {w : World} {a : Option Addr} {c : Nat} {xs : List Int} (h : Ints w a c xs) : Ints w.drew a c xs := h
/-- A draw ahead of a call is no matter. -/
theorem below_undrew {w w' : World} (h : Below w.drew.heap.size w.drew w') : Below w.heap.size w w' := ⟨h.os, h.tape, h.output, h.size, h.block⟩

/-- The order, 0 where it is no group. -/
def ordV (os : List Int) : Int := if grpB os = true then gord os else 0

set_option maxHeartbeats 800000 in
theorem orderOf_impl (a0 : Option Addr) (c0 : Nat) (os : List Int) (w : World) (h0 : Ints w a0 c0 os) (hl : os.length ≤ 2000000) :
    Calls Try.prog 90 #[.agg #[.slice a0 os.length c0]] w fun e w' => e = .returned (.int .i64 (ordV os)) ∧ Below w.heap.size w w' := by
  have hb0 := (Below.refl w.heap.size w).alloc (Nat.le_refl _) (.cells #[.slice a0 os.length c0] 46)
  have h1 := h0.below hb0 (Nat.le_refl _)
  have C := Lib.hid (fun w h => isGroup_impl a0 c0 os w h hl)
  cases hg0 : grpB os with
  | false =>
    have e : ordV os = 0 := by simp [ordV, hg0]
    rw [e]
    rw [hg0] at C
    clear e hg0
    go_enter Try.func90, Try.ntmps90
    go_wp2_with fail
    refine (C.out _ h1).mono ?_; rintro e w1 ⟨rfl, b1⟩
    go_wp2_with fail
    go_ret
    exact ⟨rfl, nx hb0 b1⟩
  | true =>
    have e : ordV os = gord os := by simp [ordV, hg0]
    rw [e]
    rw [hg0] at C
    obtain ⟨g1, g2, g3, g4⟩ := grp_parts hg0
    have HC := Lib.hid h0.2.2.2.2
    have HO := Lib.hid g2
    clear e hg0 g2
    go_enter Try.func90, Try.ntmps90
    go_wp2_with fail
    refine (C.out _ h1).mono ?_; rintro e w1 ⟨rfl, b1⟩
    have hbox := box_cell b1 (by simp)
    have hb1 := nx hb0 b1
    clear b1 hb0 h1 h0
    go_wp2_with fail
    go_loop [3, 12] (fun n i => ∃ k : Nat, k ≤ os.length ∧ i = .int .i64 k ∧ n = .int .i64 (gord (os.take k))) (fun _ i => os.length - (intOf i).toNat)
    case atStart => exact ⟨0, by omega, rfl, by simp [gord]⟩
    case round =>
      obtain ⟨k, hk, rfl, rfl⟩ := hrel
      by_cases hlt : k < os.length
      · rcases HC.out with hcs | ⟨b, off, rfl, hbB, hcell⟩
        · subst hcs; simp at hlt
        · have c1 : w1.cell? ⟨b, off + k, none⟩ = some (.int .i64 os[k]) := (hb1.cell (p := ⟨b, off + k, none⟩) hbB).trans (hcell k hlt)
          have hg := gord_take hlt
          have hbd := gord_bd _ (ordsIn_take (k + 1) HO.out) (by simp; omega)
          obtain ⟨x, hx⟩ : ∃ x, x = os[k] := ⟨_, rfl⟩
          rw [← hx] at c1 hg
          obtain ⟨n, hn⟩ : ∃ n, n = gord (os.take k) := ⟨_, rfl⟩
          rw [← hn] at hg ⊢
          rw [hg] at hbd
          have HG := Lib.hid hg
          clear hx hn hg hcell
          go_wp2_with fail
          go_round
          case rel => exact ⟨k + 1, by omega, by go_num, by rw [HG.out]⟩
          case measure => simp [intOf]; omega
      · obtain rfl : k = os.length := by omega
        rw [List.take_length] at *
        clear HC HO
        go_wp2_with fail
        go_ret
        exact ⟨rfl, hb1⟩


theorem szIntS_any (a0 : Option Addr) (c0 n : Nat) (left : Int) (w : World) (h1 : 0 ≤ left) (h2 : left ≤ 2000000) (hn : n ≤ 9223372036854775807) :
    Calls Try.prog 75 #[.slice a0 n c0, .int .i64 left] w fun e w' => e = .returned (.int .i64 (if (n : Int) ≤ left then left - n else -1)) ∧ w = w' := by
  by_cases h : (n : Int) ≤ left
  · rw [if_pos h]
    go_enter Try.func75, Try.ntmps75
    go_wp2_with fail
    go_ret
    exact ⟨rfl, rfl⟩
  · rw [if_neg h]
    have h' : left - n < 0 := by omega
    go_enter Try.func75, Try.ntmps75
    go_wp2_with fail
    go_ret
    exact ⟨rfl, rfl⟩

theorem szGroup_any (a0 : Option Addr) (c0 n : Nat) (left : Int) (w : World) (h1 : 0 ≤ left) (h2 : left ≤ 2000000) (hn : n ≤ 9223372036854775807) :
    Calls Try.prog 42 #[.agg #[.slice a0 n c0], .int .i64 left] w fun e w' => e = .returned (.int .i64 (if (n : Int) ≤ left then left - n else -1)) ∧ Below w.heap.size w w' := by
  by_cases h : (n : Int) ≤ left
  · have C := Lib.hid (szIntS_any a0 c0 n left · h1 h2 hn)
    rw [if_pos h]
    simp only [if_pos h] at C
    go_enter Try.func42, Try.ntmps42
    go_wp2_with fail
    refine (C.out _).mono ?_; rintro e w1 ⟨rfl, rfl⟩
    go_wp2_with fail
    go_ret
    exact ⟨rfl, (Below.refl _ _).alloc (Nat.le_refl _) _⟩
  · have C := Lib.hid (szIntS_any a0 c0 n left · h1 h2 hn)
    rw [if_neg h]
    simp only [if_neg h] at C
    go_enter Try.func42, Try.ntmps42
    go_wp2_with fail
    refine (C.out _).mono ?_; rintro e w1 ⟨rfl, rfl⟩
    go_wp2_with fail
    go_ret
    exact ⟨rfl, (Below.refl _ _).alloc (Nat.le_refl _) _⟩

/-- What toGroup leaves: a group over a new list. -/
def GaveG (w : World) (xs : List Int) (e : Ending) (w' : World) : Prop :=
  ∃ a cap, e = .returned (.agg #[.slice a xs.length cap]) ∧ OwnI w' w.heap.size a cap xs ∧ Below w.heap.size w w'

theorem OwnI.setLow {w : World} {B : Nat} {a : Option Addr} {c : Nat} {xs : List Int} (h : OwnI w B a c xs) {p : Addr} (hp : p.block < B) (u : Value) : OwnI (w.setCell p u) B a c xs :=
  ⟨h.1, ownsRow_setCell_below h.2 hp u⟩

set_option maxHeartbeats 800000 in
theorem toGroup_any (a0 : Option Addr) (c0 : Nat) (xs : List Int) (w : World) (h0 : Ints w a0 c0 xs) (hl : xs.length ≤ 2000000) :
    Calls Try.prog 44 #[.agg #[.slice a0 xs.length c0]] w (GaveG w xs) := by
  have hb3 := (((Below.refl w.heap.size w).alloc (Nat.le_refl _) (.cells #[.slice a0 xs.length c0] 43)).alloc (by simp) (.cells #[.slice none 0 0] 46)).alloc (by simp; omega) (.cells #[.slice none 0 0] 46)
  have h1 := h0.below hb3 (Nat.le_refl _)
  have C := Lib.hid (fun w h => toIntS_any a0 c0 xs w h hl)
  clear h0
  go_enter Try.func44, Try.ntmps44
  go_wp2_with fail
  refine (C.out _ h1).mono ?_; rintro e w1 ⟨a1, c1, rfl, o1, b1⟩
  have e2 : w1.cell? ⟨w.heap.size + 2, 0, none⟩ = some (.slice none 0 0) := by rw [b1.cell (p := ⟨w.heap.size + 2, 0, none⟩) (by simp)]; simp [go_sem]
  have e1 : w1.cell? ⟨w.heap.size + 1, 0, none⟩ = some (.slice none 0 0) := by rw [b1.cell (p := ⟨w.heap.size + 1, 0, none⟩) (by simp)]; simp [go_sem]
  have f2 : w1.frozen? ⟨w.heap.size + 2, 0, none⟩ = false := by rw [b1.frozen (p := ⟨w.heap.size + 2, 0, none⟩) (by simp)]; simp [go_sem]
  have f1 : w1.frozen? ⟨w.heap.size + 1, 0, none⟩ = false := by rw [b1.frozen (p := ⟨w.heap.size + 1, 0, none⟩) (by simp)]; simp [go_sem]
  have hbel := nx hb3 b1
  have o3 := ((o1.setLow (p := ⟨w.heap.size + 2, 0, none⟩) (by simp) (.slice a1 xs.length c1)).setLow (p := ⟨w.heap.size + 1, 0, none⟩) (by simp) (.slice a1 xs.length c1)).mono (B' := w.heap.size) (by simp; omega)
  have b3 := (hbel.setCell (p := ⟨w.heap.size + 2, 0, none⟩) (by simp) (.slice a1 xs.length c1)).setCell (p := ⟨w.heap.size + 1, 0, none⟩) (by simp) (.slice a1 xs.length c1)
  clear o1 b1 hbel hb3 h1 C
  go_wp2_with fail
  exact bodyPost_ret (v := .agg #[.slice a1 xs.length c1]) (by simp [results, Try.results44, go_sem, e1]) rfl ⟨a1, c1, rfl, o3, b3⟩

theorem eqGroup_refl (a0 a1 : Option Addr) (c0 c1 : Nat) (xs : List Int) (w : World) (h0 : Ints w a0 c0 xs) (h1 : Ints w a1 c1 xs) (hl : xs.length ≤ 2000000) :
    Calls Try.prog 46 #[.agg #[.slice a0 xs.length c0], .agg #[.slice a1 xs.length c1]] w fun e w' => e = .returned (.bool true) ∧ Below w.heap.size w w' := by
  have hb := ((Below.refl w.heap.size w).alloc (Nat.le_refl _) (.cells #[.slice a0 xs.length c0] 46)).alloc (by simp) (.cells #[.slice a1 xs.length c1] 46)
  have C := Lib.hid (eqIntS_refl a0 a1 c0 c1 xs _ (h0.below hb (Nat.le_refl _)) (h1.below hb (Nat.le_refl _)) hl)
  go_enter Try.func46, Try.ntmps46
  go_wp2_with fail
  refine C.out.mono ?_; rintro e w1 ⟨rfl, b1⟩
  go_wp2_with fail
  go_ret
  exact ⟨rfl, nx hb b1⟩
end Go.Proofs.Ytheeglaocflgmaa
