/-
Contracts of part and of both ZeroColumns: the bits of the least number for which the sum of the coefficients at its bits is 0. Conditions: lengths at most 2000000.
-/
import Derived.Test.YtokpgbpdmfibjaaEqn
namespace Go.Proofs.Ytokpgbpdmfibjaa
open Go.RowKit Go.ChangeShapes

def partTo (xs : List Int) (m : Nat) : Nat → List Int
  | 0 => []
  | k + 1 => if m.testBit k = true then partTo xs m k ++ [xs.getD k 0] else partTo xs m k
def csum (xs : List Int) (m : Nat) : Nat → Int
  | 0 => 0
  | k + 1 => if m.testBit k = true then csum xs m k + xs.getD k 0 else csum xs m k
def lsum (l : List Int) : Int := l.sum
theorem lsum_snoc (l : List Int) (x : Int) : lsum (l ++ [x]) = lsum l + x := by simp [lsum]
theorem lsum_part (xs : List Int) (m : Nat) : ∀ k, lsum (partTo xs m k) = csum xs m k
  | 0 => rfl
  | k + 1 => by
    unfold partTo csum
    split
    · rw [lsum_snoc, lsum_part xs m k]
    · exact lsum_part xs m k
theorem partTo_yes {xs : List Int} {m k : Nat} (h : m.testBit k = true) : partTo xs m (k + 1) = partTo xs m k ++ [xs.getD k 0] := by simp [partTo, h]
theorem partTo_no {xs : List Int} {m k : Nat} (h : m.testBit k = false) : partTo xs m (k + 1) = partTo xs m k := by simp [partTo, h]
theorem csum_yes {xs : List Int} {m k : Nat} (h : m.testBit k = true) : csum xs m (k + 1) = csum xs m k + xs.getD k 0 := by simp [csum, h]
theorem csum_no {xs : List Int} {m k : Nat} (h : m.testBit k = false) : csum xs m (k + 1) = csum xs m k := by simp [csum, h]
theorem partTo_len (xs : List Int) (m : Nat) : ∀ k, (partTo xs m k).length ≤ k
  | 0 => by simp [partTo]
  | k + 1 => by
    have := partTo_len xs m k
    unfold partTo
    split <;> simp <;> omega
theorem partTo_mem {xs : List Int} {m : Nat} : ∀ {k : Nat} {x : Int}, k ≤ xs.length → x ∈ partTo xs m k → x ∈ xs
  | 0, x, _, h => by simp [partTo] at h
  | k + 1, x, hk, h => by
    unfold partTo at h
    split at h
    · rcases List.mem_append.1 h with h | h
      · exact partTo_mem (by omega) h
      · simp only [List.mem_singleton] at h
        subst h
        have : xs.getD k 0 = xs[k] := by simp [List.getD, show k < xs.length by omega]
        rw [this]; exact List.getElem_mem _
    · exact partTo_mem (by omega) h
theorem csum_bd {xs : List Int} {m : Nat} (h : ∀ i (hi : i < xs.length), -9 ≤ xs[i] ∧ xs[i] ≤ 9 ∧ xs[i] ≠ 0) : ∀ k, k ≤ xs.length → -(9 * k : Int) ≤ csum xs m k ∧ csum xs m k ≤ 9 * k
  | 0, _ => by simp [csum]
  | k + 1, hk => by
    have ih := csum_bd h (m := m) k (by omega)
    have hx := h k (by omega)
    have : xs.getD k 0 = xs[k] := by simp [List.getD, show k < xs.length by omega]
    unfold csum
    rw [this]
    push_cast
    split <;> omega
theorem lsum_take {l : List Int} {k : Nat} (h : k < l.length) : lsum (l.take (k + 1)) = lsum (l.take k) + l[k] := by rw [take_snoc' l k h, lsum_snoc]
theorem lsum_bd : ∀ (l : List Int), (∀ x ∈ l, -9 ≤ x ∧ x ≤ 9) → -(9 * l.length : Int) ≤ lsum l ∧ lsum l ≤ 9 * l.length
  | [], _ => by simp [lsum]
  | x :: l, h => by
    have ih := lsum_bd l (fun y hy => h y (by simp [hy]))
    have hx := h x (by simp)
    unfold lsum at *
    simp only [List.sum_cons, List.length_cons]
    push_cast
    omega

/-- The first of f numbers from k on for which p. -/
def fnd (p : Nat → Bool) : Nat → Nat → Option Nat
  | _, 0 => none
  | k, f + 1 => if p k = true then some k else fnd p (k + 1) f
theorem fnd_no {p : Nat → Bool} {k f : Nat} (h : p k = false) : fnd p k (f + 1) = fnd p (k + 1) f := by simp [fnd, h]
theorem fnd_yes {p : Nat → Bool} {k f : Nat} (h : p k = true) : fnd p k (f + 1) = some k := by simp [fnd, h]
def zcp (xs : List Int) (m : Nat) : Bool := csum xs m xs.length == 0
def zcF (xs : List Int) : Option Nat := if eqnB xs = true then fnd (zcp xs) 1 (2 ^ xs.length - 1) else none
def zcOf : Option Nat → List Int
  | some m => mems m
  | none => []

set_option maxHeartbeats 1600000 in
theorem part_any (a0 : Option Addr) (c0 : Nat) (xs : List Int) (m : Nat) (hm : m < 9223372036854775808) (w : World) (h0 : Ints w a0 c0 xs) (hl : xs.length ≤ 60) :
    Calls Try.prog 114 #[.slice a0 xs.length c0, .int .i64 m] w (GaveI w (partTo xs m xs.length)) := by
  have hmk := OwnI.made w w.heap.size (Nat.le_refl _)
  have hbm := (Below.refl w.heap.size w).alloc (Nat.le_refl _) (.cells #[] 3)
  have hsm : w.heap.size ≤ (w.alloc (.cells #[] 3)).heap.size := by simp
  have hwf := h0.wf
  obtain ⟨-, -, -, -, hcs⟩ := h0
  have HC := Lib.hid hcs
  have HW := Lib.hid hwf
  clear hcs hwf
  go_enter Try.func114, Try.ntmps114
  go_wp2_with fail
  go_loopw [5, 11] (fun v x wr => ∃ (k : Nat) (ad : Option Addr) (c : Nat) , k ≤ xs.length ∧ x = .int .i64 k ∧ v = .slice ad (partTo xs m k).length c ∧ OwnI wr w.heap.size ad c (partTo xs m k) ∧ Below w.heap.size w wr ∧ w.heap.size ≤ wr.heap.size) (fun _ x _ => (64 - intOf x).toNat)
  case atStart => exact ⟨0, _, _, by omega, rfl, rfl, hmk, hbm, hsm⟩
  case round =>
    obtain ⟨k, ad, c, hk, rfl, rfl, hO, hbel, hsz⟩ := hrel
    have hln : (partTo xs m k).length ≤ 2000000 := by have := partTo_len xs m k; omega
    by_cases hlt : k < xs.length
    · rcases HC.out with hcs | ⟨b, off, rfl, hbB, hcell⟩
      · subst hcs; simp at hlt
      · have hget : xs.getD k 0 = xs[k] := by simp [List.getD, hlt]
        have c1 : wr.cell? ⟨b, off + k, none⟩ = some (.int .i64 (xs.getD k 0)) := by rw [hget]; exact (hbel.cell (p := ⟨b, off + k, none⟩) hbB).trans (hcell k hlt)
        have hxw : (Lit.int .i64 (xs.getD k 0)).wf = true := by rw [hget]; exact HW.out _ (List.getElem_mem hlt)
        obtain ⟨x, hx⟩ : ∃ x, x = xs.getD k 0 := ⟨_, rfl⟩
        rw [← hx] at c1 hxw
        have HX := Lib.hid hx
        clear hx hget hcell HC
        cases ht : m.testBit k
        · have HI := Lib.hid (in_any m k hm (by omega))
          rw [ht] at HI
          have HT := Lib.hid ht
          clear ht
          go_wp2_with (go_at_call 122; refine (HI.out _).mono ?_; rintro e w' ⟨rfl, rfl⟩)
          go_roundw
          · exact ⟨k + 1, ad, c, by omega, by simp, by rw [partTo_no HT.out], by rw [partTo_no HT.out]; exact hO, hbel, hsz⟩
          · simp only [intOf]; omega
        · have HI := Lib.hid (in_any m k hm (by omega))
          rw [ht] at HI
          have HT := Lib.hid ht
          clear ht
          go_wp2_with fail
          refine (HI.out _).mono ?_; rintro e w' ⟨rfl, rfl⟩
          go_wp2_with (at_builtin; refine wpList_app rfl _ _ rfl w.heap.size _ _ (partTo xs m k) x rfl rfl hO hxw hln hsz ?_)
          intro a' c' w1 hO1 hb1
          go_wp2_with fail
          go_roundw
          · exact ⟨k + 1, a', c', by omega, by simp, by rw [partTo_yes HT.out, List.length_append]; rfl, by rw [partTo_yes HT.out, ← HX.out]; exact hO1, hb1 _ hbel, Nat.le_trans hsz (hb1 _ ((Below.refl _ _).mono hsz)).size⟩
          · simp only [intOf]; omega
    · obtain rfl : k = xs.length := by omega
      clear HC HW
      go_wp2_with fail
      go_ret
      exact ⟨_, _, rfl, hO, hbel⟩

theorem pow_wrap (n : Nat) (h : n ≤ 62) : IntKind.i64.wrap (2 ^ n) = 2 ^ n := by
  have h1 : (0 : Int) ≤ 2 ^ n := Int.pow_nonneg (by decide)
  have h2 : (2 : Nat) ^ n ≤ 2 ^ 62 := Nat.pow_le_pow_right (by decide) h
  have h3 : ((2 ^ n : Nat) : Int) ≤ ((2 ^ 62 : Nat) : Int) := by exact_mod_cast h2
  have h4 : ((2 ^ n : Nat) : Int) = 2 ^ n := by simp
  apply wraps_i64 _ h1
  rw [← h4]
  have : ((2 ^ 62 : Nat) : Int) = 4611686018427387904 := by decide
  rw [this] at h3
  omega

set_option maxHeartbeats 1600000 in
theorem zc_impl (a0 : Option Addr) (c0 : Nat) (xs : List Int) (w : World) (h0 : Ints w a0 c0 xs) (hl : xs.length ≤ 2000000) :
    Calls Try.prog 37 #[.slice a0 xs.length c0] w (GaveIB w (zcOf (zcF xs)) (zcF xs).isSome) := by
  have C := Lib.hid (isEqn_any a0 c0 xs w h0 hl)
  have hmk := OwnI.made w w.heap.size (Nat.le_refl _)
  have hbm := (Below.refl w.heap.size w).alloc (Nat.le_refl _) (.cells #[] 3)
  obtain ⟨r, hr⟩ : ∃ r, r = zcF xs := ⟨_, rfl⟩
  have HR := Lib.hid hr
  rw [← hr]
  clear hr
  cases he : eqnB xs with
  | false =>
    have e : r = none := by rw [HR.out]; simp [zcF, he]
    rw [he] at C
    subst e
    clear HR he
    go_enter Try.func37, Try.ntmps37
    go_wp2_with fail
    refine C.out.mono ?_; rintro e w' ⟨rfl, rfl⟩
    go_wp2_with fail
    go_ret2
    exact ⟨_, _, rfl, hmk, hbm⟩
  | true =>
    have e : r = fnd (zcp xs) 1 (2 ^ xs.length - 1) := by rw [HR.out]; simp [zcF, he]
    rw [he] at C
    obtain ⟨l1, l2, hcs⟩ := eqn_parts he
    have HE := Lib.hid e
    have HC := Lib.hid hcs
    have hp : (2 : Nat) ^ xs.length ≤ 16 := by
      have := Nat.pow_le_pow_right (n := 2) (by decide) l2
      simpa using this
    have hpos : 1 ≤ (2 : Nat) ^ xs.length := Nat.two_pow_pos _
    obtain ⟨P, hP⟩ : ∃ P, P = (2 : Nat) ^ xs.length := ⟨_, rfl⟩
    have hw : IntKind.i64.wrap (2 ^ xs.length) = (P : Int) := by rw [hP, pow_wrap _ (by omega)]; simp
    rw [← hP] at HE hp hpos
    clear HR he e hcs hmk hbm hP
    go_enter Try.func37, Try.ntmps37
    go_wp2_with fail
    refine C.out.mono ?_; rintro e w' ⟨rfl, rfl⟩
    go_wp2_with fail
    go_loopw [4] (fun x wr => ∃ (k : Nat), 1 ≤ k ∧ k ≤ P ∧ x = .int .i64 k ∧ Hid (r = fnd (zcp xs) k (P - k)) ∧ Below w.heap.size w wr) (fun x _ => (64 - intOf x).toNat)
    case atStart => exact ⟨1, by omega, by omega, rfl, HE, Below.refl _ _⟩
    case round =>
      obtain ⟨k, hk1, hk, rfl, HK, hbel⟩ := hrel
      have hwr := hbel.size
      by_cases hkP : k < P
      · have CP := Lib.hid (part_any a0 c0 xs k (by omega) wr (h0.below hbel (Nat.le_refl _)) (by omega))
        have CM := Lib.hid (members_any k (by omega))
        obtain ⟨ys, hys⟩ : ∃ ys, ys = partTo xs k xs.length := ⟨_, rfl⟩
        have hyl : ys.length ≤ 4 := by have := partTo_len xs k xs.length; rw [hys]; omega
        have hyb : ∀ x ∈ ys, -9 ≤ x ∧ x ≤ 9 := fun x hx => by
          rw [hys] at hx
          obtain ⟨i, hi, rfl⟩ := List.mem_iff_getElem.1 (partTo_mem (Nat.le_refl _) hx)
          exact ⟨(HC.out i hi).1, (HC.out i hi).2.1⟩
        have hys2 : zcp xs k = (lsum ys == 0) := by rw [hys, lsum_part]; rfl
        have HY := Lib.hid hys2
        have HB := Lib.hid hyb
        rw [← hys] at CP
        clear hys hys2 hyb
        go_wp2_with fail
        refine CP.out.mono ?_; rintro e w1 ⟨a1, c1, rfl, o1, b1⟩
        have i1 := o1.ints
        have hsz1 := b1.size
        obtain ⟨-, -, -, -, hcs⟩ := i1
        have HCS := Lib.hid hcs
        clear hcs
        go_wp2_with fail
        go_loop [5, 23] (fun s i => ∃ j : Nat, j ≤ ys.length ∧ i = .int .i64 j ∧ s = .int .i64 (lsum (ys.take j))) (fun _ i => ys.length - (intOf i).toNat)
        case atStart => exact ⟨0, by omega, rfl, by simp [lsum]⟩
        case round =>
          obtain ⟨j, hj, rfl, rfl⟩ := hrel
          by_cases hlt : j < ys.length
          · rcases HCS.out with hcs | ⟨b, off, rfl, hbB, hcell⟩
            · subst hcs; simp at hlt
            · have c2 := hcell j hlt
              have hs1 := lsum_take hlt
              have hs2 := lsum_bd (ys.take j) (fun x hx => HB.out x (List.mem_of_mem_take hx))
              have hs3 := HB.out _ (List.getElem_mem hlt)
              rw [List.length_take] at hs2
              obtain ⟨x, hx⟩ : ∃ x, x = ys[j] := ⟨_, rfl⟩
              obtain ⟨t, ht⟩ : ∃ t, t = lsum (ys.take j) := ⟨_, rfl⟩
              rw [← hx] at c2 hs1 hs3
              rw [← ht] at hs1 hs2 ⊢
              have hs4 : -36 ≤ t ∧ t ≤ 36 := by omega
              have HS := Lib.hid hs1
              clear hx ht hs1 hs2 hcell HCS
              go_wp2_with fail
              go_round
              case rel => exact ⟨j + 1, by omega, by go_num, by rw [HS.out]⟩
              case measure => simp [intOf]; omega
          · obtain rfl : j = ys.length := by omega
            rw [List.take_length] at *
            obtain ⟨t, ht⟩ : ∃ t, t = lsum ys := ⟨_, rfl⟩
            rw [← ht] at HY ⊢
            clear ht HCS
            by_cases ht0 : t = 0
            · have e : r = some k := by rw [HK.out, show P - k = (P - (k + 1)) + 1 by omega]; exact fnd_yes (by rw [HY.out, ht0]; rfl)
              subst e
              subst ht0
              clear HY HK HE
              go_wp2_with fail
              refine (CM.out _).mono ?_; rintro e w2 ⟨a2, c2, rfl, o2, b2⟩
              go_wp2_with fail
              go_ret2
              exact ⟨_, _, rfl, o2.mono (Nat.le_trans hwr hsz1), nx (nx hbel b1) b2⟩
            · have hn := fnd_no (f := P - (k + 1)) (show zcp xs k = false by rw [HY.out]; simpa using ht0)
              have HK2 := Lib.hid (show r = fnd (zcp xs) (k + 1) (P - (k + 1)) by rw [HK.out, show P - k = (P - (k + 1)) + 1 by omega]; exact hn)
              clear hn
              go_wp2_with fail
              go_roundw
              · exact ⟨k + 1, by omega, by omega, by simp, HK2, nx hbel b1⟩
              · simp only [intOf]; omega
      · have e : r = none := by rw [HK.out, show P - k = 0 by omega]; rfl
        subst e
        have hmk := OwnI.made wr w.heap.size hwr
        clear HK HE
        go_wp2_with fail
        go_ret2
        exact ⟨_, _, rfl, hmk, nx hbel ((Below.refl wr.heap.size wr).alloc (Nat.le_refl _) (.cells #[] 3))⟩

theorem shl_some (n : Nat) : ∃ Z : Int, Op.shift .shl .i64 1 .i64 (n : Int) = pure (.int .i64 Z) := by
  refine ⟨IntKind.i64.wrap (1 * 2 ^ min (n : Int).toNat IntKind.i64.bits), ?_⟩
  have : ¬ (n : Int) < 0 := by omega
  simp [Op.shift, this]
set_option maxHeartbeats 1600000 in
theorem zc_spec (a0 : Option Addr) (c0 : Nat) (xs : List Int) (w : World) (h0 : Ints w a0 c0 xs) (hl : xs.length ≤ 2000000) :
    Calls Try.prog 38 #[.slice a0 xs.length c0] w (GaveIB w (zcOf (zcF xs)) (zcF xs).isSome) := by
  have C := Lib.hid (fun w1 hb => fine_any a0 c0 xs w1 (h0.below hb (Nat.le_refl _)) hl)
  obtain ⟨r, hr⟩ : ∃ r, r = zcF xs := ⟨_, rfl⟩
  have HR := Lib.hid hr
  rw [← hr]
  clear hr
  have hmk := OwnI.made w w.heap.size (Nat.le_refl _)
  have hbm := (Below.refl w.heap.size w).alloc (Nat.le_refl _) (.cells #[] 3)
  cases he : eqnB xs with
  | false =>
    have e : r = none := by rw [HR.out]; simp [zcF, he]
    rw [he] at C
    subst e
    clear HR he
    obtain ⟨Z, hZ⟩ := shl_some xs.length
    go_enter Try.func38, Try.ntmps38
    go_wp2_with fail
    refine wp_loop_once ?_
    by_cases hz : 1 < Z
    · go_wp2_with fail
      refine (C.out w (Below.refl _ _)).mono ?_; rintro e w' ⟨rfl, rfl⟩
      go_wp2_with fail
      go_ret2
      exact ⟨_, _, rfl, hmk, hbm⟩
    · go_wp2_with fail
      go_ret2
      exact ⟨_, _, rfl, hmk, hbm⟩
  | true =>
    have e : r = fnd (zcp xs) 1 (2 ^ xs.length - 1) := by rw [HR.out]; simp [zcF, he]
    rw [he] at C
    obtain ⟨l1, l2, hcs⟩ := eqn_parts he
    have HE := Lib.hid e
    have HC := Lib.hid hcs
    have hp : (2 : Nat) ^ xs.length ≤ 16 := by
      have := Nat.pow_le_pow_right (n := 2) (by decide) l2
      simpa using this
    have hpos : 1 ≤ (2 : Nat) ^ xs.length := Nat.two_pow_pos _
    obtain ⟨P, hP⟩ : ∃ P, P = (2 : Nat) ^ xs.length := ⟨_, rfl⟩
    have hw : IntKind.i64.wrap (2 ^ xs.length) = (P : Int) := by rw [hP, pow_wrap _ (by omega)]; simp
    rw [← hP] at HE hp hpos
    clear HR he e hcs hmk hbm hP
    go_enter Try.func38, Try.ntmps38
    go_wp2_with fail
    go_loopw [4] (fun x wr => ∃ (k : Nat), 1 ≤ k ∧ k ≤ P ∧ x = .int .i64 k ∧ Hid (r = fnd (zcp xs) k (P - k)) ∧ Below w.heap.size w wr) (fun x _ => (64 - intOf x).toNat)
    case atStart => exact ⟨1, by omega, by omega, rfl, HE, Below.refl _ _⟩
    case round =>
      obtain ⟨k, hk1, hk, rfl, HK, hbel⟩ := hrel
      have hwr := hbel.size
      by_cases hkP : k < P
      · have CM := Lib.hid (l3List_any k (by omega))
        go_wp2_with fail
        refine (C.out _ hbel).mono ?_; rintro e w1 ⟨rfl, rfl⟩
        obtain ⟨-, -, -, -, hcs⟩ := h0.below hbel (Nat.le_refl _)
        have HCS := Lib.hid hcs
        clear hcs
        go_wp2_with fail
        go_loop [5, 6] (fun s i => ∃ j : Nat, j ≤ xs.length ∧ i = .int .i64 j ∧ s = .int .i64 (csum xs k j)) (fun _ i => xs.length - (intOf i).toNat)
        case atStart => exact ⟨0, by omega, rfl, by simp [csum]⟩
        case round =>
          obtain ⟨j, hj, rfl, rfl⟩ := hrel
          by_cases hlt : j < xs.length
          · rcases HCS.out with hcs | ⟨b, off, rfl, hbB, hcell⟩
            · subst hcs; simp at hlt
            · have hget : xs.getD j 0 = xs[j] := by simp [List.getD, hlt]
              have c2 : wr.cell? ⟨b, off + j, none⟩ = some (.int .i64 (xs.getD j 0)) := by rw [hget]; exact hcell j hlt
              have hs2 := csum_bd (m := k) HC.out j hj
              have hs3 := HC.out j hlt
              rw [← hget] at hs3
              cases ht : k.testBit j
              · have hbt : (bits .and .i64 ((k : Int) / 2 ^ j) 1 == 1) = false := by rw [bit_is k j (by omega), ht]
                have HS := Lib.hid (csum_no (xs := xs) ht)
                obtain ⟨x, hx⟩ : ∃ x, x = xs.getD j 0 := ⟨_, rfl⟩
                obtain ⟨t, ht⟩ : ∃ t, t = csum xs k j := ⟨_, rfl⟩
                rw [← ht] at HS ⊢
                clear hx ht hs2 hs3 hcell HCS hget c2
                go_wp2_with fail
                go_round
                case rel => exact ⟨j + 1, by omega, by go_num, by rw [HS.out]⟩
                case measure => simp [intOf]; omega
              · have hbt : (bits .and .i64 ((k : Int) / 2 ^ j) 1 == 1) = true := by rw [bit_is k j (by omega), ht]
                have HS := Lib.hid (csum_yes (xs := xs) ht)
                obtain ⟨x, hx⟩ : ∃ x, x = xs.getD j 0 := ⟨_, rfl⟩
                obtain ⟨t, ht⟩ : ∃ t, t = csum xs k j := ⟨_, rfl⟩
                rw [← hx] at c2 HS hs3
                rw [← ht] at HS hs2 ⊢
                have hs4 : -36 ≤ t ∧ t ≤ 36 := by omega
                clear hx ht hs2 hcell HCS hget
                go_wp2_with fail
                go_round
                case rel => exact ⟨j + 1, by omega, by go_num, by rw [HS.out]⟩
                case measure => simp [intOf]; omega
          · obtain rfl : j = xs.length := by omega
            have HY := Lib.hid (show zcp xs k = (csum xs k xs.length == 0) from rfl)
            obtain ⟨t, ht⟩ : ∃ t, t = csum xs k xs.length := ⟨_, rfl⟩
            rw [← ht] at HY ⊢
            clear ht HCS
            by_cases ht0 : t = 0
            · have e : r = some k := by rw [HK.out, show P - k = (P - (k + 1)) + 1 by omega]; exact fnd_yes (by rw [HY.out, ht0]; rfl)
              subst e
              subst ht0
              clear HY HK HE
              go_wp2_with fail
              refine (CM.out _).mono ?_; rintro e w2 ⟨a2, c2, rfl, o2, b2⟩
              go_wp2_with fail
              go_ret2
              exact ⟨_, _, rfl, o2.mono hwr, nx hbel b2⟩
            · have hn := fnd_no (f := P - (k + 1)) (show zcp xs k = false by rw [HY.out]; simpa using ht0)
              have HK2 := Lib.hid (show r = fnd (zcp xs) (k + 1) (P - (k + 1)) by rw [HK.out, show P - k = (P - (k + 1)) + 1 by omega]; exact hn)
              clear hn
              go_wp2_with fail
              go_roundw
              · exact ⟨k + 1, by omega, by omega, by simp, HK2, hbel⟩
              · simp only [intOf]; omega
      · have e : r = none := by rw [HK.out, show P - k = 0 by omega]; rfl
        subst e
        have hmk := OwnI.made wr w.heap.size hwr
        clear HK HE
        go_wp2_with fail
        go_ret2
        exact ⟨_, _, rfl, hmk, nx hbel ((Below.refl wr.heap.size wr).alloc (Nat.le_refl _) (.cells #[] 3))⟩
end Go.Proofs.Ytokpgbpdmfibjaa
