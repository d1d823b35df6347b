/-
Contracts of both ColoringByDigits: the last digit in base p that is not 0, minus 1. No condition.
-/
import Derived.Test.YtokpgbpdmfibjaaInts
namespace Go.Proofs.Ytokpgbpdmfibjaa
open Go.RowKit Go.ChangeShapes

/-- y without the factors p. -/
def strip (p y : Nat) : Nat := if _h : (2 ≤ p ∧ y ≠ 0) ∧ y % p = 0 then strip p (y / p) else y
termination_by y
decreasing_by
  exact Nat.div_lt_self (by omega) (by omega)

theorem strip_go {p y : Nat} (hp : 2 ≤ p) (hy : y ≠ 0) (h : y % p = 0) : strip p y = strip p (y / p) := by rw [strip, dif_pos ⟨⟨hp, hy⟩, h⟩]
theorem strip_end {p y : Nat} (h : y % p ≠ 0) : strip p y = y := by rw [strip, dif_neg (fun ⟨_, g⟩ => h g)]

def cbd (p n : Nat) : List Int := (List.range n).map fun i : Nat => ((strip p (i + 1) % p : Nat) : Int) - 1
theorem cbd_succ (p n : Nat) : cbd p (n + 1) = cbd p n ++ [((strip p (n + 1) % p : Nat) : Int) - 1] := by simp [cbd, List.range_succ]
theorem cbd_len (p n : Nat) : (cbd p n).length = n := by simp [cbd]

/-- What both return. -/
def cbv (p n : Int) : List Int := if inB p 2 7 = true ∧ n ≤ 40 then cbd p.toNat n.toNat else []

set_option maxHeartbeats 800000 in
theorem cbd_spec (p n : Int) (w : World) :
    Calls Try.prog 49 #[.int .i64 p, .int .i64 n] w (GaveI w (cbv p n)) := by
  have hm := OwnI.made w w.heap.size (Nat.le_refl _)
  cases hin : inB p 2 7 with
  | false =>
    have e : cbv p n = [] := by simp [cbv, hin]
    rw [e]
    have HI := Lib.hid hin
    clear hin e
    by_cases hn : n ≤ 40
    · go_enter Try.func49, Try.ntmps49
      go_wp2_with fail
      refine wp_loop_once ?_
      by_cases h1 : 1 ≤ n
      · go_wp2_with (go_at_call 105; refine (l1In_is p 2 7 false HI.out _).mono ?_; rintro e w' ⟨rfl, rfl⟩)
        go_ret
        exact ⟨_, _, rfl, hm, (Below.refl _ _).alloc (Nat.le_refl _) _⟩
      · go_wp2_with fail
        go_ret
        exact ⟨_, _, rfl, hm, (Below.refl _ _).alloc (Nat.le_refl _) _⟩
    · have hn' : 40 < n := by omega
      go_enter Try.func49, Try.ntmps49
      go_wp2_with fail
      refine wp_loop_once ?_
      by_cases h1 : 1 ≤ n
      · go_wp2_with (go_at_call 105; refine (l1In_is p 2 7 false HI.out _).mono ?_; rintro e w' ⟨rfl, rfl⟩)
        go_ret
        exact ⟨_, _, rfl, hm, (Below.refl _ _).alloc (Nat.le_refl _) _⟩
      · go_wp2_with fail
        go_ret
        exact ⟨_, _, rfl, hm, (Below.refl _ _).alloc (Nat.le_refl _) _⟩
  | true =>
    obtain ⟨hp1, hp2⟩ := inB_true.1 hin
    by_cases hn : n ≤ 40
    · obtain ⟨r, hr⟩ : ∃ r, r = cbv p n := ⟨_, rfl⟩
      have hr' : r = cbd p.toNat n.toNat := by rw [hr, cbv, if_pos ⟨hin, hn⟩]
      rw [← hr]
      have HR := Lib.hid hr'
      have HI := Lib.hid hin
      clear hr hr' hin
      obtain ⟨p, rfl⟩ := Int.eq_ofNat_of_zero_le (by omega : 0 ≤ p)
      go_enter Try.func49, Try.ntmps49
      go_wp2_with fail
      go_loopw [5, 6] (fun v i wr => ∃ (k : Nat) (a : Option Addr) (c : Nat), (k : Int) ≤ 40 ∧ (k ≤ n ∨ k = 0) ∧ i = .int .i64 (k + 1) ∧ v = .slice a (cbd p k).length c ∧ OwnI wr w.heap.size a c (cbd p k) ∧ Below w.heap.size w wr) (fun _ i _ => (n + 1 - intOf i).toNat)
      case atStart => exact ⟨0, _, _, by omega, by omega, rfl, rfl, hm, (Below.refl _ _).alloc (Nat.le_refl _) _⟩
      case round =>
        obtain ⟨k, a, c, hk, hkn, rfl, rfl, hown, hbel⟩ := hrel
        clear hm
        have hlen : (cbd p k).length ≤ k := Nat.le_of_eq (cbd_len p k)
        by_cases hlt : (k : Int) + 1 ≤ n
        · go_wp2_with (go_at_call 105; refine (l1In_is (p : Int) 2 7 true HI.out _).mono ?_; rintro e w' ⟨rfl, rfl⟩)
          go_loop [7] (fun y => ∃ m : Nat, 1 ≤ m ∧ m ≤ 41 ∧ y = .int .i64 m ∧ Hid (strip p m = strip p (k + 1))) (fun y => (intOf y).toNat)
          case atStart => exact ⟨k + 1, by omega, by omega, by go_num, rfl⟩
          case round =>
            obtain ⟨m, hm1, hm2, rfl, HF⟩ := hrel
            by_cases hd : (m : Int) % (p : Int) = 0
            · have hq : 1 ≤ m / p := Nat.div_pos (Nat.le_of_dvd (by omega) (Nat.dvd_of_mod_eq_zero (by omega))) (by omega)
              have hq2 : m / p < m := Nat.div_lt_self (by omega) (by omega)
              go_wp2_with fail
              go_round
              case rel => exact ⟨m / p, hq, by omega, by go_num, (strip_go (by omega) (by omega) (by omega)).symm.trans HF.out⟩
              case measure => simp [intOf]; omega
            · have e : cbd p (k + 1) = cbd p k ++ [(m : Int) % (p : Int) - 1] := by
                rw [cbd_succ, ← HF.out, strip_end (by omega)]
                rfl
              have HB := Lib.hid e
              have hsz := hbel.size
              have hmod1 : 0 ≤ (m : Int) % (p : Int) := by omega
              have hmod2 : (m : Int) % (p : Int) < p := Int.emod_lt_of_pos _ (by omega)
              have hwk : (Lit.int .i64 ((m : Int) % (p : Int) - 1)).wf = true := wf_of (by omega) (by omega)
              have hl2 : (cbd p k).length ≤ 2000000 := by omega
              clear e
              go_wp2_with (at_builtin; refine wpList_app rfl _ _ rfl w.heap.size _ _ _ _ rfl rfl hown hwk hl2 hsz ?_)
              intro a' c' w1 hO hb
              have hb1 := hb _ hbel
              clear hb hown hbel hwk hl2
              go_wp2_with fail
              go_roundw
              case rel => exact ⟨k + 1, a', c', by omega, by omega, by go_num, by rw [HB.out]; simp, by rw [HB.out]; exact hO, hb1⟩
              case measure => simp [intOf]; omega
        · have e : r = cbd p k := by
            rw [HR.out]
            simp only [Int.toNat_natCast]
            congr 1
            omega
          subst e
          go_wp2_with fail
          go_ret
          exact ⟨a, c, rfl, hown, hbel⟩
    · have e : cbv p n = [] := by simp [cbv, hn]
      rw [e]
      have HI := Lib.hid hin
      have hn' : 40 < n := by omega
      clear hin e
      go_enter Try.func49, Try.ntmps49
      go_wp2_with fail
      refine wp_loop_once ?_
      by_cases h1 : 1 ≤ n
      · go_wp2_with (go_at_call 105; refine (l1In_is p 2 7 true HI.out _).mono ?_; rintro e w' ⟨rfl, rfl⟩)
        go_ret
        exact ⟨_, _, rfl, hm, (Below.refl _ _).alloc (Nat.le_refl _) _⟩
      · go_wp2_with fail
        go_ret
        exact ⟨_, _, rfl, hm, (Below.refl _ _).alloc (Nat.le_refl _) _⟩

set_option maxHeartbeats 800000 in
theorem cbd_impl (p n : Int) (w : World) :
    Calls Try.prog 42 #[.int .i64 p, .int .i64 n] w (GaveI w (cbv p n)) := by
  have hm := OwnI.made w w.heap.size (Nat.le_refl _)
  cases hin : inB p 2 7 with
  | false =>
    have e : cbv p n = [] := by simp [cbv, hin]
    rw [e]
    have HI := Lib.hid hin
    clear hin e
    by_cases hn : n ≤ 40
    · go_enter Try.func42, Try.ntmps42
      go_wp2_with (go_at_call 103; refine (within_is p 2 7 false HI.out _).mono ?_; rintro e w' ⟨rfl, rfl⟩)
      go_ret
      exact ⟨_, _, rfl, hm, (Below.refl _ _).alloc (Nat.le_refl _) _⟩
    · have hn' : 40 < n := by omega
      go_enter Try.func42, Try.ntmps42
      go_wp2_with (go_at_call 103; refine (within_is p 2 7 false HI.out _).mono ?_; rintro e w' ⟨rfl, rfl⟩)
      go_ret
      exact ⟨_, _, rfl, hm, (Below.refl _ _).alloc (Nat.le_refl _) _⟩
  | true =>
    obtain ⟨hp1, hp2⟩ := inB_true.1 hin
    by_cases hn : n ≤ 40
    · obtain ⟨r, hr⟩ : ∃ r, r = cbv p n := ⟨_, rfl⟩
      have hr' : r = cbd p.toNat n.toNat := by rw [hr, cbv, if_pos ⟨hin, hn⟩]
      rw [← hr]
      have HR := Lib.hid hr'
      have HI := Lib.hid hin
      clear hr hr' hin
      obtain ⟨p, rfl⟩ := Int.eq_ofNat_of_zero_le (by omega : 0 ≤ p)
      go_enter Try.func42, Try.ntmps42
      go_wp2_with (go_at_call 103; refine (within_is (p : Int) 2 7 true HI.out _).mono ?_; rintro e w' ⟨rfl, rfl⟩)
      go_loopw [5, 6] (fun v i wr => ∃ (k : Nat) (a : Option Addr) (c : Nat), (k : Int) ≤ 40 ∧ (k ≤ n ∨ k = 0) ∧ i = .int .i64 (k + 1) ∧ v = .slice a (cbd p k).length c ∧ OwnI wr w.heap.size a c (cbd p k) ∧ Below w.heap.size w wr) (fun _ i _ => (n + 1 - intOf i).toNat)
      case atStart => exact ⟨0, _, _, by omega, by omega, rfl, rfl, hm, (Below.refl _ _).alloc (Nat.le_refl _) _⟩
      case round =>
        obtain ⟨k, a, c, hk, hkn, rfl, rfl, hown, hbel⟩ := hrel
        clear hm
        have hlen : (cbd p k).length ≤ k := Nat.le_of_eq (cbd_len p k)
        by_cases hlt : (k : Int) + 1 ≤ n
        · go_wp2_with fail
          go_loop [7] (fun y => ∃ m : Nat, 1 ≤ m ∧ m ≤ 41 ∧ y = .int .i64 m ∧ Hid (strip p m = strip p (k + 1))) (fun y => (intOf y).toNat)
          case atStart => exact ⟨k + 1, by omega, by omega, by go_num, rfl⟩
          case round =>
            obtain ⟨m, hm1, hm2, rfl, HF⟩ := hrel
            by_cases hd : (m : Int) % (p : Int) = 0
            · have hq : 1 ≤ m / p := Nat.div_pos (Nat.le_of_dvd (by omega) (Nat.dvd_of_mod_eq_zero (by omega))) (by omega)
              have hq2 : m / p < m := Nat.div_lt_self (by omega) (by omega)
              go_wp2_with fail
              go_round
              case rel => exact ⟨m / p, hq, by omega, by go_num, (strip_go (by omega) (by omega) (by omega)).symm.trans HF.out⟩
              case measure => simp [intOf]; omega
            · have e : cbd p (k + 1) = cbd p k ++ [(m : Int) % (p : Int) - 1] := by
                rw [cbd_succ, ← HF.out, strip_end (by omega)]
                rfl
              have HB := Lib.hid e
              have hsz := hbel.size
              have hmod1 : 0 ≤ (m : Int) % (p : Int) := by omega
              have hmod2 : (m : Int) % (p : Int) < p := Int.emod_lt_of_pos _ (by omega)
              have hwk : (Lit.int .i64 ((m : Int) % (p : Int) - 1)).wf = true := wf_of (by omega) (by omega)
              have hl2 : (cbd p k).length ≤ 2000000 := by omega
              clear e
              go_wp2_with (at_builtin; refine wpList_app rfl _ _ rfl w.heap.size _ _ _ _ rfl rfl hown hwk hl2 hsz ?_)
              intro a' c' w1 hO hb
              have hb1 := hb _ hbel
              clear hb hown hbel hwk hl2
              go_wp2_with fail
              go_roundw
              case rel => exact ⟨k + 1, a', c', by omega, by omega, by go_num, by rw [HB.out]; simp, by rw [HB.out]; exact hO, hb1⟩
              case measure => simp [intOf]; omega
        · have e : r = cbd p k := by
            rw [HR.out]
            simp only [Int.toNat_natCast]
            congr 1
            omega
          subst e
          go_wp2_with fail
          go_ret
          exact ⟨a, c, rfl, hown, hbel⟩
    · have e : cbv p n = [] := by simp [cbv, hn]
      rw [e]
      have HI := Lib.hid hin
      have hn' : 40 < n := by omega
      clear hin e
      go_enter Try.func42, Try.ntmps42
      go_wp2_with (go_at_call 103; refine (within_is p 2 7 true HI.out _).mono ?_; rintro e w' ⟨rfl, rfl⟩)
      go_ret
      exact ⟨_, _, rfl, hm, (Below.refl _ _).alloc (Nat.le_refl _) _⟩

end Go.Proofs.Ytokpgbpdmfibjaa
