/-
Groups: contracts of both IsGroups, of OrderOf and l2Order, and of the laws' helpers on groups. Conditions: lists of at most 2000000 orders.
-/
import Derived.Test.YtokpgbpdmfibjaaInts2
import Derived.Test.YtokpgbpdmfibjaaHelp
namespace Go.Proofs.Ytokpgbpdmfibjaa
open Go.RowKit Go.ChangeShapes

/-- The product of the orders. -/
def gord : List Int → Int
  | [] => 1
  | o :: t => o * gord t
def ordsIn (os : List Int) : Bool := os.all fun o => inB o 2 24
/-- At most three orders from 2 to 24 with a product of at most 24. -/
def grpB (os : List Int) : Bool := decide (os.length ≤ 3) && ordsIn os && decide (gord os ≤ 24)

theorem gord_snoc (l : List Int) (o : Int) : gord (l ++ [o]) = gord l * o := by
  induction l with
  | nil => simp [gord]
  | cons a t ih => simp only [List.cons_append, gord, ih, Int.mul_assoc]
theorem gord_take {os : List Int} {k : Nat} (h : k < os.length) : gord (os.take (k + 1)) = gord (os.take k) * os[k] := by
  rw [List.take_succ_eq_append_getElem h, gord_snoc]
theorem gord_bd : ∀ (l : List Int), ordsIn l = true → l.length ≤ 3 → 1 ≤ gord l ∧ gord l ≤ 13824
  | [], _, _ => by decide
  | [a], h, _ => by
    simp [ordsIn, inB] at h
    simp [gord]; omega
  | [a, b], h, _ => by
    simp [ordsIn, inB] at h
    obtain ⟨⟨a1, a2⟩, b1, b2⟩ := h
    have h1 : 1 * 1 ≤ a * b := Int.mul_le_mul (by omega) (by omega) (by omega) (by omega)
    have h2 : a * b ≤ 24 * 24 := Int.mul_le_mul (by omega) (by omega) (by omega) (by omega)
    simp [gord]; omega
  | [a, b, c], h, _ => by
    simp [ordsIn, inB] at h
    obtain ⟨⟨a1, a2⟩, ⟨b1, b2⟩, c1, c2⟩ := h
    have h1 : 1 * 1 ≤ b * c := Int.mul_le_mul (by omega) (by omega) (by omega) (by omega)
    have h2 : b * c ≤ 24 * 24 := Int.mul_le_mul (by omega) (by omega) (by omega) (by omega)
    have h3 : 1 * 1 ≤ a * (b * c) := Int.mul_le_mul (by omega) (by omega) (by omega) (by omega)
    have h4 : a * (b * c) ≤ 24 * 576 := Int.mul_le_mul (by omega) (by omega) (by omega) (by omega)
    simp [gord]; omega
  | _ :: _ :: _ :: _ :: _, _, h => by simp at h
theorem ordsIn_take {os : List Int} (k : Nat) (h : ordsIn os = true) : ordsIn (os.take k) = true := by
  simp only [ordsIn, List.all_eq_true] at *
  exact fun x hx => h x (List.mem_of_mem_take hx)
theorem ordsIn_snoc {os : List Int} {k : Nat} (hk : k < os.length) (h : ordsIn (os.take k) = true) (hx : inB os[k] 2 24 = true) : ordsIn (os.take (k + 1)) = true := by
  rw [List.take_succ_eq_append_getElem hk]
  simp only [ordsIn, List.all_append, List.all_cons, List.all_nil, Bool.and_true] at *
  rw [h, hx]; rfl
theorem ordsIn_no {os : List Int} {k : Nat} (hk : k < os.length) (hx : inB os[k] 2 24 = false) : ordsIn os = false := by
  simp only [ordsIn, List.all_eq_false]
  exact ⟨os[k], List.getElem_mem hk, by simp [hx]⟩

/-- A box of one cell reads as it was laid, in every later world. -/
theorem box_cell {w w1 : World} {B : Nat} {v : Value} {T : TypeId} (hb : Below B (w.alloc (.cells #[v] T)) w1) (hB : w.heap.size < B) : w1.cell? ⟨w.heap.size, 0, none⟩ = some v := by
  rw [hb.cell (p := ⟨w.heap.size, 0, none⟩) hB]
  simp

set_option maxHeartbeats 800000 in
theorem isGroup_impl (a0 : Option Addr) (c0 : Nat) (os : List Int) (w : World) (h0 : Ints w a0 c0 os) (hl : os.length ≤ 2000000) :
    Calls Try.prog 75 #[.agg #[.slice a0 os.length c0]] w fun e w' => e = .returned (.bool (grpB os)) ∧ Below w.heap.size w w' := by
  have h0' := h0.below ((Below.refl w.heap.size w).alloc (Nat.le_refl _) (.cells #[.slice a0 os.length c0] 26)) (Nat.le_refl _)
  obtain ⟨-, -, -, -, hcs⟩ := h0
  have HC := Lib.hid hcs
  clear hcs h0'
  obtain ⟨r, hr⟩ : ∃ r, r = grpB os := ⟨_, rfl⟩
  have HR := Lib.hid hr
  rw [← hr]
  clear hr
  by_cases h3 : 3 < os.length
  · have e : r = false := by rw [HR.out]; simp [grpB]; omega
    subst e
    clear HC HR
    go_enter Try.func75, Try.ntmps75
    go_wp2_with fail
    go_ret
    exact ⟨rfl, (Below.refl _ _).alloc (Nat.le_refl _) _⟩
  · go_enter Try.func75, Try.ntmps75
    go_wp2_with fail
    go_loop [3, 13] (fun n i => ∃ k : Nat, k ≤ os.length ∧ i = .int .i64 k ∧ n = .int .i64 (gord (os.take k)) ∧ Hid (ordsIn (os.take k) = true)) (fun _ i => os.length - (intOf i).toNat)
    case atStart => exact ⟨0, by omega, rfl, by simp [gord], rfl⟩
    case round =>
      obtain ⟨k, hk, rfl, rfl, HO⟩ := hrel
      by_cases hlt : k < os.length
      · rcases HC.out with hcs | ⟨b, off, rfl, hbB, hcell⟩
        · subst hcs; simp at hlt
        · have c1 : (w.alloc (.cells #[.slice (some ⟨b, off, none⟩) os.length c0] 26)).cell? ⟨b, off + k, none⟩ = some (.int .i64 os[k]) := by rw [World.cell?_alloc_past _ _ _ hbB]; exact hcell k hlt
          have hg := gord_take hlt
          obtain ⟨x, hx⟩ : ∃ x, x = os[k] := ⟨_, rfl⟩
          rw [← hx] at c1 hg
          obtain ⟨n, hn⟩ : ∃ n, n = gord (os.take k) := ⟨_, rfl⟩
          rw [← hn] at hg ⊢
          cases hin : inB x 2 24 with
          | false =>
            have e : r = false := by rw [HR.out]; simp only [grpB]; rw [ordsIn_no hlt (by rw [← hx]; exact hin)]; simp
            subst e
            have HI := Lib.hid hin
            clear hin hx hn hg HR HC HO hcell
            go_wp2_with (go_at_call 103; refine (within_is x 2 24 false HI.out _).mono ?_; rintro e w' ⟨rfl, rfl⟩)
            go_ret
            exact ⟨rfl, (Below.refl _ _).alloc (Nat.le_refl _) _⟩
          | true =>
            have ho := ordsIn_snoc hlt HO.out (by rw [← hx]; exact hin)
            have hbd := gord_bd _ ho (by simp; omega)
            rw [hg] at hbd
            have HG := Lib.hid hg
            have HOO := Lib.hid ho
            have HI := Lib.hid hin
            clear hin hx hn hg ho HO hcell
            go_wp2_with (go_at_call 103; refine (within_is x 2 24 true HI.out _).mono ?_; rintro e w' ⟨rfl, rfl⟩)
            go_round
            case rel => exact ⟨k + 1, by omega, by go_num, by rw [HG.out], HOO⟩
            case measure => simp [intOf]; omega
      · obtain rfl : k = os.length := by omega
        rw [List.take_length] at *
        have e : r = decide (gord os ≤ 24) := by rw [HR.out]; simp only [grpB]; rw [HO.out]; simp; omega
        have HE := Lib.hid e
        clear e HR HC HO
        go_wp2_with fail
        go_ret
        exact ⟨ret_bool HE.out.symm, (Below.refl _ _).alloc (Nat.le_refl _) _⟩

set_option maxHeartbeats 800000 in
theorem isGroup_spec (a0 : Option Addr) (c0 : Nat) (os : List Int) (w : World) (h0 : Ints w a0 c0 os) (hl : os.length ≤ 2000000) :
    Calls Try.prog 81 #[.agg #[.slice a0 os.length c0]] w fun e w' => e = .returned (.bool (grpB os)) ∧ Below w.heap.size w w' := by
  obtain ⟨-, -, -, -, hcs⟩ := h0
  have HC := Lib.hid hcs
  clear hcs
  obtain ⟨r, hr⟩ : ∃ r, r = grpB os := ⟨_, rfl⟩
  have HR := Lib.hid hr
  rw [← hr]
  clear hr
  go_enter Try.func81, Try.ntmps81
  go_wp2_with fail
  go_loop [3, 4] (fun n i => ∃ k : Nat, k ≤ os.length ∧ k ≤ 3 ∧ i = .int .i64 k ∧ n = .int .i64 (gord (os.take k)) ∧ Hid (ordsIn (os.take k) = true)) (fun _ i => os.length - (intOf i).toNat)
  case atStart => exact ⟨0, by omega, by omega, rfl, by simp [gord], rfl⟩
  case round =>
    obtain ⟨k, hk, hk3, rfl, rfl, HO⟩ := hrel
    by_cases hlt : k < os.length
    · rcases HC.out with hcs | ⟨b, off, rfl, hbB, hcell⟩
      · subst hcs; simp at hlt
      · have c1 : (w.alloc (.cells #[.slice (some ⟨b, off, none⟩) os.length c0] 26)).cell? ⟨b, off + k, none⟩ = some (.int .i64 os[k]) := by rw [World.cell?_alloc_past _ _ _ hbB]; exact hcell k hlt
        have hg := gord_take hlt
        obtain ⟨x, hx⟩ : ∃ x, x = os[k] := ⟨_, rfl⟩
        rw [← hx] at c1 hg
        obtain ⟨n, hn⟩ : ∃ n, n = gord (os.take k) := ⟨_, rfl⟩
        rw [← hn] at hg ⊢
        cases hin : inB x 2 24 with
        | false =>
          have e : r = false := by rw [HR.out]; simp only [grpB]; rw [ordsIn_no hlt (by rw [← hx]; exact hin)]; simp
          subst e
          have HI := Lib.hid hin
          clear hin hx hn hg HR HC HO hcell
          go_wp2_with (go_at_call 105; refine (l1In_is x 2 24 false HI.out _).mono ?_; rintro e w' ⟨rfl, rfl⟩)
          go_ret
          exact ⟨rfl, (Below.refl _ _).alloc (Nat.le_refl _) _⟩
        | true =>
          have ho := ordsIn_snoc hlt HO.out (by rw [← hx]; exact hin)
          have HG := Lib.hid hg
          have HOO := Lib.hid ho
          have HI := Lib.hid hin
          by_cases h2 : 2 < k
          · have e : r = false := by rw [HR.out]; simp [grpB]; omega
            subst e
            clear hin hx hn hg ho HR HC HO hcell
            go_wp2_with (go_at_call 105; refine (l1In_is x 2 24 true HI.out _).mono ?_; rintro e w' ⟨rfl, rfl⟩)
            go_ret
            exact ⟨rfl, (Below.refl _ _).alloc (Nat.le_refl _) _⟩
          · have hbd := gord_bd _ ho (by simp; omega)
            rw [hg] at hbd
            clear hin hx hn hg ho HO hcell
            go_wp2_with (go_at_call 105; refine (l1In_is x 2 24 true HI.out _).mono ?_; rintro e w' ⟨rfl, rfl⟩)
            go_round
            case rel => exact ⟨k + 1, by omega, by omega, by go_num, by rw [HG.out], HOO⟩
            case measure => simp [intOf]; omega
    · obtain rfl : k = os.length := by omega
      rw [List.take_length] at *
      have e : r = decide (gord os ≤ 24) := by rw [HR.out]; simp only [grpB]; rw [HO.out]; simp; omega
      have HE := Lib.hid e
      clear e HR HC HO
      go_wp2_with fail
      go_ret
      exact ⟨ret_bool HE.out.symm, (Below.refl _ _).alloc (Nat.le_refl _) _⟩

theorem grp_parts {os : List Int} (h : grpB os = true) : os.length ≤ 3 ∧ ordsIn os = true ∧ 1 ≤ gord os ∧ gord os ≤ 24 := by
  simp only [grpB, Bool.and_eq_true, decide_eq_true_eq] at h
  obtain ⟨⟨h1, h2⟩, h3⟩ := h
  exact ⟨h1, h2, (gord_bd os h2 h1).1, h3⟩

set_option maxHeartbeats 800000 in
theorem l2Order_any (a0 : Option Addr) (c0 : Nat) (os : List Int) (w : World) (h0 : Ints w a0 c0 os) (hg0 : grpB os = true) :
    Calls Try.prog 82 #[.agg #[.slice a0 os.length c0]] w fun e w' => e = .returned (.int .i64 (gord os)) ∧ Below w.heap.size w w' := by
  obtain ⟨-, -, -, -, hcs⟩ := h0
  obtain ⟨g1, g2, g3, g4⟩ := grp_parts hg0
  have HC := Lib.hid hcs
  have HO := Lib.hid g2
  clear hcs hg0 g2
  go_enter Try.func82, Try.ntmps82
  go_wp2_with fail
  go_loop [3, 4] (fun n i => ∃ k : Nat, k ≤ os.length ∧ i = .int .i64 k ∧ n = .int .i64 (gord (os.take k))) (fun _ i => os.length - (intOf i).toNat)
  case atStart => exact ⟨0, by omega, rfl, by simp [gord]⟩
  case round =>
    obtain ⟨k, hk, rfl, rfl⟩ := hrel
    by_cases hlt : k < os.length
    · rcases HC.out with hcs | ⟨b, off, rfl, hbB, hcell⟩
      · subst hcs; simp at hlt
      · have c1 : (w.alloc (.cells #[.slice (some ⟨b, off, none⟩) os.length c0] 26)).cell? ⟨b, off + k, none⟩ = some (.int .i64 os[k]) := by rw [World.cell?_alloc_past _ _ _ hbB]; exact hcell k hlt
        have hg := gord_take hlt
        have hbd := gord_bd _ (ordsIn_take (k + 1) HO.out) (by simp; omega)
        obtain ⟨x, hx⟩ : ∃ x, x = os[k] := ⟨_, rfl⟩
        rw [← hx] at c1 hg
        obtain ⟨n, hn⟩ : ∃ n, n = gord (os.take k) := ⟨_, rfl⟩
        rw [← hn] at hg ⊢
        rw [hg] at hbd
        have HG := Lib.hid hg
        clear hx hn hg hcell
        go_wp2_with fail
        go_round
        case rel => exact ⟨k + 1, by omega, by go_num, by rw [HG.out]⟩
        case measure => simp [intOf]; omega
    · obtain rfl : k = os.length := by omega
      rw [List.take_length] at *
      clear HC HO
      go_wp2_with fail
      go_ret
      exact ⟨rfl, (Below.refl _ _).alloc (Nat.le_refl _) _⟩

theorem Ints.drew {w : World} {a : Option Addr} {c : Nat} {xs : List Int} (h : Ints w a c xs) : Ints w.drew a c xs := h
/-- A draw ahead of a call is no matter. -/
theorem below_undrew {w w' : World} (h : Below w.drew.heap.size w.drew w') : Below w.heap.size w w' := ⟨h.os, h.tape, h.output, h.size, h.block⟩

/-- The order, 0 where it is no group. -/
def ordV (os : List Int) : Int := if grpB os = true then gord os else 0

set_option maxHeartbeats 800000 in
theorem orderOf_impl (a0 : Option Addr) (c0 : Nat) (os : List Int) (w : World) (h0 : Ints w a0 c0 os) (hl : os.length ≤ 2000000) :
    Calls Try.prog 76 #[.agg #[.slice a0 os.length c0]] w fun e w' => e = .returned (.int .i64 (ordV os)) ∧ Below w.heap.size w w' := by
  have hb0 := (Below.refl w.heap.size w).alloc (Nat.le_refl _) (.cells #[.slice a0 os.length c0] 26)
  have h1 := h0.below hb0 (Nat.le_refl _)
  have C := Lib.hid (fun w h => isGroup_impl a0 c0 os w h hl)
  cases hg0 : grpB os with
  | false =>
    have e : ordV os = 0 := by simp [ordV, hg0]
    rw [e]
    rw [hg0] at C
    clear e hg0
    go_enter Try.func76, Try.ntmps76
    go_wp2_with fail
    refine (C.out _ h1).mono ?_; rintro e w1 ⟨rfl, b1⟩
    go_wp2_with fail
    go_ret
    exact ⟨rfl, nx hb0 b1⟩
  | true =>
    have e : ordV os = gord os := by simp [ordV, hg0]
    rw [e]
    rw [hg0] at C
    obtain ⟨g1, g2, g3, g4⟩ := grp_parts hg0
    have HC := Lib.hid h0.2.2.2.2
    have HO := Lib.hid g2
    clear e hg0 g2
    go_enter Try.func76, Try.ntmps76
    go_wp2_with fail
    refine (C.out _ h1).mono ?_; rintro e w1 ⟨rfl, b1⟩
    have hbox := box_cell b1 (by simp)
    have hb1 := nx hb0 b1
    clear b1 hb0 h1 h0
    go_wp2_with fail
    go_loop [3, 12] (fun n i => ∃ k : Nat, k ≤ os.length ∧ i = .int .i64 k ∧ n = .int .i64 (gord (os.take k))) (fun _ i => os.length - (intOf i).toNat)
    case atStart => exact ⟨0, by omega, rfl, by simp [gord]⟩
    case round =>
      obtain ⟨k, hk, rfl, rfl⟩ := hrel
      by_cases hlt : k < os.length
      · rcases HC.out with hcs | ⟨b, off, rfl, hbB, hcell⟩
        · subst hcs; simp at hlt
        · have c1 : w1.cell? ⟨b, off + k, none⟩ = some (.int .i64 os[k]) := (hb1.cell (p := ⟨b, off + k, none⟩) hbB).trans (hcell k hlt)
          have hg := gord_take hlt
          have hbd := gord_bd _ (ordsIn_take (k + 1) HO.out) (by simp; omega)
          obtain ⟨x, hx⟩ : ∃ x, x = os[k] := ⟨_, rfl⟩
          rw [← hx] at c1 hg
          obtain ⟨n, hn⟩ : ∃ n, n = gord (os.take k) := ⟨_, rfl⟩
          rw [← hn] at hg ⊢
          rw [hg] at hbd
          have HG := Lib.hid hg
          clear hx hn hg hcell
          go_wp2_with fail
          go_round
          case rel => exact ⟨k + 1, by omega, by go_num, by rw [HG.out]⟩
          case measure => simp [intOf]; omega
      · obtain rfl : k = os.length := by omega
        rw [List.take_length] at *
        clear HC HO
        go_wp2_with fail
        go_ret
        exact ⟨rfl, hb1⟩

set_option maxHeartbeats 800000 in
theorem orderOf_spec (a0 : Option Addr) (c0 : Nat) (os : List Int) (w : World) (h0 : Ints w a0 c0 os) (hl : os.length ≤ 2000000) :
    Calls Try.prog 14 #[.agg #[.slice a0 os.length c0]] w fun e w' => e = .returned (.int .i64 (ordV os)) ∧ Below w.heap.size w w' := by
  have hb0 := (Below.refl w.heap.size w).alloc (Nat.le_refl _) (.cells #[.slice a0 os.length c0] 26)
  have h1 := h0.below hb0 (Nat.le_refl _)
  have C := Lib.hid (fun w h => isGroup_spec a0 c0 os w h hl)
  cases hg0 : grpB os with
  | false =>
    have e : ordV os = 0 := by simp [ordV, hg0]
    rw [e]
    rw [hg0] at C
    clear e hg0
    go_enter Try.func14, Try.ntmps14
    go_wp2_with fail
    refine (C.out _ h1).mono ?_; rintro e w1 ⟨rfl, b1⟩
    go_wp2_with fail
    go_ret
    exact ⟨rfl, nx hb0 b1⟩
  | true =>
    have e : ordV os = gord os := by simp [ordV, hg0]
    rw [e]
    have C2 := Lib.hid (fun w h => l2Order_any a0 c0 os w h hg0)
    rw [hg0] at C
    clear e hg0
    go_enter Try.func14, Try.ntmps14
    go_wp2_with fail
    refine (C.out _ h1).mono ?_; rintro e w1 ⟨rfl, b1⟩
    have hbox := box_cell b1 (by simp)
    have h2 := h1.below b1 (Nat.le_refl _)
    go_wp2_with fail
    refine (C2.out _ h2).mono ?_; rintro e w2 ⟨rfl, b2⟩
    go_wp2_with fail
    go_ret
    exact ⟨rfl, nx (nx hb0 b1) b2⟩



/-- What toGroup leaves: a group over a new list. -/
def GaveG (w : World) (xs : List Int) (e : Ending) (w' : World) : Prop :=
  ∃ a cap, e = .returned (.agg #[.slice a xs.length cap]) ∧ OwnI w' w.heap.size a cap xs ∧ Below w.heap.size w w'


end Go.Proofs.Ytokpgbpdmfibjaa
