/-
Contracts of both BehrendSets: the numbers below n without the digit 2 in base 3. No condition.
-/
import Derived.Test.YtbidkjhgodkamaaInts
namespace Go.Proofs.Ytbidkjhgodkamaa
open Go.RowKit Go.ChangeShapes

/-- No digit 2 in base 3. -/
def noTwo (y : Nat) : Bool := if h : y = 0 then true else (y % 3 != 2) && noTwo (y / 3)
termination_by y
decreasing_by omega

theorem noTwo_zero : noTwo 0 = true := by rw [noTwo]; rfl
theorem noTwo_pos {y : Nat} (h : y ≠ 0) : noTwo y = ((y % 3 != 2) && noTwo (y / 3)) := by rw [noTwo, dif_neg h]

def behr (n : Nat) : List Int := ((List.range n).filter noTwo).map fun i : Nat => (i : Int)
theorem behr_succ (n : Nat) : behr (n + 1) = behr n ++ (if noTwo n = true then [(n : Int)] else []) := by
  unfold behr
  rw [List.range_succ, List.filter_append, List.map_append]
  cases h : noTwo n <;> simp [h]
theorem behr_len (n : Nat) : (behr n).length ≤ n := by
  unfold behr
  rw [List.length_map]
  exact Nat.le_trans (List.length_filter_le _ _) (by simp)

set_option maxHeartbeats 800000 in
theorem behr_spec (n : Int) (w : World) :
    Calls Try.prog 126 #[.int .i64 n] w (GaveI w (if 81 < n then [] else behr n.toNat)) := by
  by_cases hn : 81 < n
  · rw [if_pos hn]
    have hm := OwnI.made w w.heap.size (Nat.le_refl _)
    go_enter Try.func126, Try.ntmps126
    go_wp2_with fail
    refine wp_loop_once ?_
    by_cases h0 : 0 < n
    · go_wp2_with fail
      go_ret
      exact ⟨_, _, rfl, hm, (Below.refl _ _).alloc (Nat.le_refl _) _⟩
    · omega
  · rw [if_neg hn]
    obtain ⟨r, hr⟩ : ∃ r, r = behr n.toNat := ⟨_, rfl⟩
    have HR := Lib.hid hr
    rw [← hr]
    clear hr
    have hm := OwnI.made w w.heap.size (Nat.le_refl _)
    have hn' : n ≤ 81 := by omega
    go_enter Try.func126, Try.ntmps126
    go_wp2_with fail
    go_loopw [3, 4] (fun v i wr => ∃ (k : Nat) (a : Option Addr) (c : Nat), (k : Int) ≤ 81 ∧ (k ≤ n ∨ k = 0) ∧ i = .int .i64 k ∧ v = .slice a (behr k).length c ∧ OwnI wr w.heap.size a c (behr k) ∧ Below w.heap.size w wr) (fun _ i _ => (n - intOf i).toNat)
    case atStart => exact ⟨0, _, _, by omega, by omega, rfl, rfl, hm, (Below.refl _ _).alloc (Nat.le_refl _) _⟩
    case round =>
      obtain ⟨k, a, c, hk, hkn, rfl, rfl, hown, hbel⟩ := hrel
      clear hm
      have hlen := behr_len k
      by_cases hlt : (k : Int) < n
      · go_wp2_with fail
        go_loop [5, 6] (fun f y => ∃ (m : Nat) (b : Bool), m ≤ 81 ∧ y = .int .i64 m ∧ f = .bool b ∧ Hid ((b && noTwo m) = noTwo k)) (fun _ y => (intOf y).toNat)
        case atStart => exact ⟨k, true, by omega, rfl, rfl, by simp [Hid]⟩
        case round =>
          obtain ⟨m, b, hm, rfl, rfl, HF⟩ := hrel
          by_cases hm0 : m = 0
          · subst hm0
            cases b with
            | false =>
              have hno : noTwo k = false := by have := HF.out; simpa using this.symm
              have hbk : behr (k + 1) = behr k := by rw [behr_succ, hno]; simp
              have HB := Lib.hid hbk
              clear hno hbk
              go_wp2_with fail
              go_roundw
              case rel => exact ⟨k + 1, a, c, by omega, by omega, by go_num, by rw [HB.out], by rw [HB.out]; exact hown, hbel⟩
              case measure => simp [intOf]; omega
            | true =>
              have hno : noTwo k = true := by have := HF.out; rw [noTwo_zero] at this; exact this.symm
              have hbk : behr (k + 1) = behr k ++ [(k : Int)] := by rw [behr_succ, hno]; simp
              have HB := Lib.hid hbk
              clear hno hbk
              have hsz := hbel.size
              have hwk : (Lit.int .i64 (k : Int)).wf = true := wf_of (by omega) (by omega)
              have hl2 : (behr k).length ≤ 2000000 := by omega
              go_wp2_with (at_builtin; refine wpList_app rfl _ _ rfl w.heap.size _ _ _ _ rfl rfl hown hwk hl2 hsz ?_)
              intro a' c' w1 hO hb
              have hb1 := hb _ hbel
              clear hb hown hbel hwk hl2
              go_wp2_with fail
              go_roundw
              case rel => exact ⟨k + 1, a', c', by omega, by omega, by go_num, by rw [HB.out]; simp, by rw [HB.out]; exact hO, hb1⟩
              case measure => simp [intOf]; omega
          · have hm1 : (0 : Int) < m := by omega
            have hp := noTwo_pos hm0
            have HP := Lib.hid hp
            clear hp
            cases b with
            | false =>
              go_wp2_with fail
              go_round
              case rel => exact ⟨m / 3, false, by omega, by go_num, rfl, by have := HF.out; simp at this; simpa [Hid] using this⟩
              case measure => simp [intOf]; omega
            | true =>
              by_cases h2 : (m : Int) % 3 < 2
              · have h2' : ¬ (m : Int) % 3 = 2 := by omega
                go_wp2_with fail
                go_round
                case rel => exact ⟨m / 3, true, by omega, by go_num, rfl, by
                  have := HF.out
                  rw [HP.out] at this
                  have e : (m % 3 != 2) = true := by simp; omega
                  rw [e] at this
                  simpa [Hid] using this⟩
                case measure => simp [intOf]; omega
              · have h2' : (m : Int) % 3 = 2 := by omega
                go_wp2_with fail
                go_round
                case rel => exact ⟨m / 3, false, by omega, by go_num, rfl, by
                  have := HF.out
                  rw [HP.out] at this
                  have e : (m % 3 != 2) = false := by simp; omega
                  rw [e] at this
                  simpa [Hid] using this⟩
                case measure => simp [intOf]; omega
      · have e : r = behr k := by
          rw [HR.out]; congr 1; omega
        subst e
        go_wp2_with fail
        go_ret
        exact ⟨a, c, rfl, hown, hbel⟩

set_option maxHeartbeats 800000 in
theorem behr_impl (n : Int) (w : World) :
    Calls Try.prog 118 #[.int .i64 n] w (GaveI w (if 81 < n then [] else behr n.toNat)) := by
  by_cases hn : 81 < n
  · rw [if_pos hn]
    have hm := OwnI.made w w.heap.size (Nat.le_refl _)
    go_enter Try.func118, Try.ntmps118
    go_wp2_with fail
    go_ret
    exact ⟨_, _, rfl, hm, (Below.refl _ _).alloc (Nat.le_refl _) _⟩
  · rw [if_neg hn]
    obtain ⟨r, hr⟩ : ∃ r, r = behr n.toNat := ⟨_, rfl⟩
    have HR := Lib.hid hr
    rw [← hr]
    clear hr
    have hm := OwnI.made w w.heap.size (Nat.le_refl _)
    have hn' : n ≤ 81 := by omega
    go_enter Try.func118, Try.ntmps118
    go_wp2_with fail
    go_loopw [3, 4] (fun v i wr => ∃ (k : Nat) (a : Option Addr) (c : Nat), (k : Int) ≤ 81 ∧ (k ≤ n ∨ k = 0) ∧ i = .int .i64 k ∧ v = .slice a (behr k).length c ∧ OwnI wr w.heap.size a c (behr k) ∧ Below w.heap.size w wr) (fun _ i _ => (n - intOf i).toNat)
    case atStart => exact ⟨0, _, _, by omega, by omega, rfl, rfl, hm, (Below.refl _ _).alloc (Nat.le_refl _) _⟩
    case round =>
      obtain ⟨k, a, c, hk, hkn, rfl, rfl, hown, hbel⟩ := hrel
      clear hm
      have hlen := behr_len k
      by_cases hlt : (k : Int) < n
      · go_wp2_with fail
        go_loop [5, 6] (fun f y => ∃ (m : Nat) (b : Bool), m ≤ 81 ∧ y = .int .i64 m ∧ f = .bool b ∧ Hid ((b && noTwo m) = noTwo k)) (fun _ y => (intOf y).toNat)
        case atStart => exact ⟨k, true, by omega, rfl, rfl, by simp [Hid]⟩
        case round =>
          obtain ⟨m, b, hm, rfl, rfl, HF⟩ := hrel
          by_cases hm0 : m = 0
          · subst hm0
            cases b with
            | false =>
              have hno : noTwo k = false := by have := HF.out; simpa using this.symm
              have hbk : behr (k + 1) = behr k := by rw [behr_succ, hno]; simp
              have HB := Lib.hid hbk
              clear hno hbk
              go_wp2_with fail
              go_roundw
              case rel => exact ⟨k + 1, a, c, by omega, by omega, by go_num, by rw [HB.out], by rw [HB.out]; exact hown, hbel⟩
              case measure => simp [intOf]; omega
            | true =>
              have hno : noTwo k = true := by have := HF.out; rw [noTwo_zero] at this; exact this.symm
              have hbk : behr (k + 1) = behr k ++ [(k : Int)] := by rw [behr_succ, hno]; simp
              have HB := Lib.hid hbk
              clear hno hbk
              have hsz := hbel.size
              have hwk : (Lit.int .i64 (k : Int)).wf = true := wf_of (by omega) (by omega)
              have hl2 : (behr k).length ≤ 2000000 := by omega
              go_wp2_with (at_builtin; refine wpList_app rfl _ _ rfl w.heap.size _ _ _ _ rfl rfl hown hwk hl2 hsz ?_)
              intro a' c' w1 hO hb
              have hb1 := hb _ hbel
              clear hb hown hbel hwk hl2
              go_wp2_with fail
              go_roundw
              case rel => exact ⟨k + 1, a', c', by omega, by omega, by go_num, by rw [HB.out]; simp, by rw [HB.out]; exact hO, hb1⟩
              case measure => simp [intOf]; omega
          · have hm1 : (0 : Int) < m := by omega
            have hp := noTwo_pos hm0
            have HP := Lib.hid hp
            clear hp
            cases b with
            | false =>
              go_wp2_with fail
              go_round
              case rel => exact ⟨m / 3, false, by omega, by go_num, rfl, by have := HF.out; simp at this; simpa [Hid] using this⟩
              case measure => simp [intOf]; omega
            | true =>
              by_cases h2 : (m : Int) % 3 < 2
              · have h2' : ((m : Int) % 3 != 2) = true := by simp; omega
                go_wp2_with fail
                go_round
                case rel => exact ⟨m / 3, true, by omega, by go_num, rfl, by
                  have := HF.out
                  rw [HP.out] at this
                  have e : (m % 3 != 2) = true := by simp; omega
                  rw [e] at this
                  simpa [Hid] using this⟩
                case measure => simp [intOf]; omega
              · have h2' : ((m : Int) % 3 != 2) = false := by simp; omega
                go_wp2_with fail
                go_round
                case rel => exact ⟨m / 3, false, by omega, by go_num, rfl, by
                  have := HF.out
                  rw [HP.out] at this
                  have e : (m % 3 != 2) = false := by simp; omega
                  rw [e] at this
                  simpa [Hid] using this⟩
                case measure => simp [intOf]; omega
      · have e : r = behr k := by
          rw [HR.out]; congr 1; omega
        subst e
        go_wp2_with fail
        go_ret
        exact ⟨a, c, rfl, hown, hbel⟩

end Go.Proofs.Ytbidkjhgodkamaa
