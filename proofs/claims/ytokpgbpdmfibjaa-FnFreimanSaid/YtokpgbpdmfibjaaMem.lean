/-
Contracts of the lists of a set's bits: members, l3List and in. Conditions: sets below 2^40.
-/
import Derived.Test.YtokpgbpdmfibjaaBit
namespace Go.Proofs.Ytokpgbpdmfibjaa
open Go.RowKit Go.ChangeShapes

set_option maxHeartbeats 800000 in
theorem members_any (a : Nat) (ha : a < 1099511627776) (w : World) :
    Calls Try.prog 115 #[.int .i64 a] w (GaveI w (mems a)) := by
  have hm := OwnI.made w w.heap.size (Nat.le_refl _)
  have hbm := (Below.refl w.heap.size w).alloc (Nat.le_refl _) (.cells #[] 3)
  have hsm : w.heap.size ≤ (w.alloc (.cells #[] 3)).heap.size := by simp
  go_enter Try.func115, Try.ntmps115
  go_wp2_with fail
  go_loopw [3, 4] (fun v x wr => ∃ (k : Nat) (ad : Option Addr) (c : Nat) , k ≤ 40 ∧ x = .int .i64 k ∧ v = .slice ad (memsTo a k).length c ∧ OwnI wr w.heap.size ad c (memsTo a k) ∧ Below w.heap.size w wr ∧ w.heap.size ≤ wr.heap.size) (fun _ x _ => (64 - intOf x).toNat)
  case atStart => exact ⟨0, _, _, by omega, rfl, rfl, hm, hbm, hsm⟩
  case round =>
    obtain ⟨k, ad, c, hk, rfl, rfl, hO, hbel, hsz⟩ := hrel
    have hln : (memsTo a k).length ≤ 2000000 := by have := memsTo_len a k; omega
    by_cases hle : 2 ^ k ≤ a
    · have hk2 := lt40_of ha hle
      have hsh : (((a : Int) / 2 ^ k) != 0) = true := by rw [shr_ne]; exact decide_eq_true hle
      cases ht : a.testBit k
      · have hbt : (bits .and .i64 ((a : Int) / 2 ^ k) 1 == 1) = false := by rw [bit_is a k (by omega), ht]
        go_wp2_with fail
        go_roundw
        · exact ⟨k + 1, ad, c, by omega, by simp, by rw [memsTo_no ht], by rw [memsTo_no ht]; exact hO, hbel, hsz⟩
        · simp only [intOf]; omega
      · have hbt : (bits .and .i64 ((a : Int) / 2 ^ k) 1 == 1) = true := by rw [bit_is a k (by omega), ht]
        go_wp2_with (at_builtin; refine wpList_app rfl _ _ rfl w.heap.size _ _ (memsTo a k) (k : Int) rfl rfl hO (wf_of (by omega) (by omega)) hln hsz ?_)
        intro a' c' w1 hO1 hb1
        go_wp2_with fail
        go_roundw
        · exact ⟨k + 1, a', c', by omega, by simp, by rw [memsTo_yes ht, List.length_append]; rfl, by rw [memsTo_yes ht]; exact hO1, hb1 _ hbel, Nat.le_trans hsz (hb1 _ ((Below.refl _ _).mono hsz)).size⟩
        · simp only [intOf]; omega
    · have hsh : (((a : Int) / 2 ^ k) != 0) = false := by rw [shr_ne]; exact decide_eq_false hle
      go_wp2_with fail
      go_ret
      rw [mems_at (Nat.lt_of_not_le hle) (by omega)]
      exact ⟨_, _, rfl, hO, hbel⟩

set_option maxHeartbeats 800000 in
theorem l3List_any (a : Nat) (ha : a < 1099511627776) (w : World) :
    Calls Try.prog 116 #[.int .i64 a] w (GaveI w (mems a)) := by
  have hm := OwnI.made w w.heap.size (Nat.le_refl _)
  have hbm := (Below.refl w.heap.size w).alloc (Nat.le_refl _) (.cells #[] 3)
  have hsm : w.heap.size ≤ (w.alloc (.cells #[] 3)).heap.size := by simp
  have hz := Lib.hid (show (a : Int) = ((a / 2 ^ 0 : Nat) : Int) by simp)
  go_enter Try.func116, Try.ntmps116
  go_wp2_with fail
  go_loopw [3, 4, 5] (fun v i x wr => ∃ (k : Nat) (ad : Option Addr) (c : Nat) (y : Int), k ≤ 40 ∧ y = ((a / 2 ^ k : Nat) : Int) ∧ i = .int .i64 k ∧ x = .int .i64 y ∧ v = .slice ad (memsTo a k).length c ∧ OwnI wr w.heap.size ad c (memsTo a k) ∧ Below w.heap.size w wr ∧ w.heap.size ≤ wr.heap.size) (fun _ i _ _ => (64 - intOf i).toNat)
  case atStart => exact ⟨0, _, _, _, by omega, hz.out, rfl, rfl, rfl, hm, hbm, hsm⟩
  case round =>
    obtain ⟨k, ad, c, y, hk, hy, rfl, rfl, rfl, hO, hbel, hsz⟩ := hrel
    have hln : (memsTo a k).length ≤ 2000000 := by have := memsTo_len a k; omega
    have hy2 : y / 2 = ((a / 2 ^ (k + 1) : Nat) : Int) := by rw [hy]; exact half_div a k
    have hy3 : y / 2 ^ 1 = ((a / 2 ^ (k + 1) : Nat) : Int) := hy2
    by_cases hle : 2 ^ k ≤ a
    · have hk2 := lt40_of ha hle
      have hpos : 0 < a / 2 ^ k := Nat.div_pos hle (Nat.two_pow_pos k)
      have hyp : 0 < y := by rw [hy]; omega
      cases ht : a.testBit k
      · have hbt : (bits .and .i64 y 1 == 1) = false := by rw [hy, last_is _ (div_lt63 (by omega)), testBit_div, ht]
        replace hy := Lib.hid hy
        replace hy2 := Lib.hid hy2
        replace hy3 := Lib.hid hy3
        go_wp2_with fail
        go_roundw
        · exact ⟨k + 1, ad, c, _, by omega, hy3.out, by simp, by simp, by rw [memsTo_no ht], by rw [memsTo_no ht]; exact hO, hbel, hsz⟩
        · simp only [intOf]; omega
      · have hbt : (bits .and .i64 y 1 == 1) = true := by rw [hy, last_is _ (div_lt63 (by omega)), testBit_div, ht]
        replace hy := Lib.hid hy
        replace hy2 := Lib.hid hy2
        replace hy3 := Lib.hid hy3
        go_wp2_with (at_builtin; refine wpList_app rfl _ _ rfl w.heap.size _ _ (memsTo a k) (k : Int) rfl rfl hO (wf_of (by omega) (by omega)) hln hsz ?_)
        intro a' c' w1 hO1 hb1
        go_wp2_with fail
        go_roundw
        · exact ⟨k + 1, a', c', _, by omega, hy3.out, by simp, by simp, by rw [memsTo_yes ht, List.length_append]; rfl, by rw [memsTo_yes ht]; exact hO1, hb1 _ hbel, Nat.le_trans hsz (hb1 _ ((Below.refl _ _).mono hsz)).size⟩
        · simp only [intOf]; omega
    · have hpos : a / 2 ^ k = 0 := Nat.div_eq_of_lt (by omega)
      have hyp : ¬ 0 < y := by rw [hy, hpos]; omega
      clear hy hy2 hy3
      go_wp2_with fail
      go_ret
      rw [mems_at (Nat.lt_of_not_le hle) (by omega)]
      exact ⟨_, _, rfl, hO, hbel⟩

theorem in_any (a k : Nat) (ha : a < 9223372036854775808) (hk : k ≤ 64) (w : World) :
    Calls Try.prog 122 #[.int .i64 a, .int .i64 k] w fun e w' => e = .returned (.bool (a.testBit k)) ∧ w = w' := by
  have hb : (bits .and .i64 ((a : Int) / 2 ^ k) 1 == 1) = a.testBit k := bit_is a k ha
  go_enter Try.func122, Try.ntmps122
  go_wp2_with fail
  go_ret
  exact ⟨ret_bool rfl, rfl⟩
end Go.Proofs.Ytokpgbpdmfibjaa
