/-
Counting the maps that keep sums: the program's count (all maps, tested at the end) and the reference's (each beginning tested) are equal; powers of 2; plain. No condition.
-/
import Derived.Test.YtokpgbpdmfibjaaKpl
import Derived.Test.YtokpgbpdmfibjaaTtp
namespace Go.Proofs.Ytokpgbpdmfibjaa
open Go.RowKit Go.ChangeShapes
set_option linter.unusedVariables false

theorem elt_app {m : List Int} {y : Int} {i : Nat} (h : i < m.length) : elt (m ++ [y]) i = elt m i := by
  unfold elt
  rw [List.getD_eq_getElem?_getD, List.getD_eq_getElem?_getD, List.getElem?_append_left h]
theorem elt_take {l : List Int} {n i : Nat} (h : i < n) : elt (l.take n) i = elt l i := by
  unfold elt
  rw [List.getD_eq_getElem?_getD, List.getD_eq_getElem?_getD, List.getElem?_take_of_lt h]
theorem kpB_congr {os hs l l' m m' : List Int} {n : Nat} (h : ∀ i, i < n → elt l i = elt l' i) (k : ∀ i, i < n → elt m i = elt m' i) : kpB os hs l m n = kpB os hs l' m' n := by
  rw [Bool.eq_iff_iff, kpB_true, kpB_true]
  constructor
  · intro hk i j p q hi hj hp hq
    have := hk i j p q hi hj hp hq
    unfold kpAt at *
    rwa [h i hi, h j hj, h p hp, h q hq, k i hi, k j hj, k p hp, k q hq] at this
  · intro hk i j p q hi hj hp hq
    have := hk i j p q hi hj hp hq
    unfold kpAt at *
    rwa [← h i hi, ← h j hj, ← h p hp, ← h q hq, ← k i hi, ← k j hj, ← k p hp, ← k q hq] at this
theorem kpB_take (os hs l m : List Int) (n : Nat) : kpB os hs (l.take n) m n = kpB os hs l m n := kpB_congr (fun i h => elt_take h) (fun _ _ => rfl)
theorem kpB_mono {os hs l m : List Int} {n k : Nat} (h : kpB os hs l m n = true) (hk : k ≤ n) : kpB os hs l m k = true :=
  kpB_true.2 fun i j p q hi hj hp hq => kpB_true.1 h i j p q (by omega) (by omega) (by omega) (by omega)
theorem kpB_pre {os hs l m : List Int} {y : Int} (h : kpB os hs l (m ++ [y]) (m.length + 1) = true) : kpB os hs l m m.length = true := by
  have := kpB_mono h (Nat.le_succ m.length)
  rwa [kpB_congr (fun _ _ => rfl) (fun i hi => elt_app hi)] at this
theorem kpB_nil (os hs l m : List Int) : kpB os hs l m 0 = true := kpB_true.2 fun i j p q hi => by omega
/-- The program's count of the maps that go on from m. -/
noncomputable def cmG (os hs l : List Int) (N : Nat) : Nat → List Int → Nat
  | 0, m => if kpB os hs l m l.length = true then 1 else 0
  | d + 1, m => ns (fun x => cmG os hs l N d (m ++ [(x : Int)])) N
/-- The reference's. -/
noncomputable def cmS (os hs l : List Int) (N : Nat) : Nat → List Int → Nat
  | 0, _ => 1
  | d + 1, m => ns (fun x => if kpB os hs l (m ++ [(x : Int)]) (m.length + 1) = true then cmS os hs l N d (m ++ [(x : Int)]) else 0) N
theorem cmG_no {os hs l : List Int} {N : Nat} : ∀ {d : Nat} {m : List Int}, m.length + d = l.length → kpB os hs l m m.length = false → cmG os hs l N d m = 0
  | 0, m, hl, h => by
    have e : m.length = l.length := by omega
    unfold cmG
    rw [← e, h]
    simp
  | d + 1, m, hl, h => by
    unfold cmG
    refine ns_zero fun x _ => cmG_no (by simp; omega) ?_
    cases e : kpB os hs l (m ++ [(x : Int)]) (m ++ [(x : Int)]).length with
    | false => rfl
    | true =>
      rw [List.length_append] at e
      rw [kpB_pre e] at h
      cases h
theorem cm_eq {os hs l : List Int} {N : Nat} : ∀ {d : Nat} {m : List Int}, m.length + d = l.length → kpB os hs l m m.length = true → cmS os hs l N d m = cmG os hs l N d m
  | 0, m, hl, h => by
    have e : m.length = l.length := by omega
    unfold cmG cmS
    rw [← e, h, if_pos rfl]
  | d + 1, m, hl, h => by
    unfold cmG cmS
    refine ns_congr fun x _ => ?_
    have hl2 : (m ++ [(x : Int)]).length + d = l.length := by simp; omega
    cases e : kpB os hs l (m ++ [(x : Int)]) (m.length + 1) with
    | true =>
      rw [if_pos rfl]
      exact cm_eq hl2 (by rw [List.length_append]; exact e)
    | false =>
      rw [if_neg (by decide), cmG_no hl2 (by rw [List.length_append]; exact e)]
theorem cmS_le {os hs l : List Int} {N : Nat} (hN : N ≤ 8) : ∀ (d : Nat) (m : List Int), cmS os hs l N d m ≤ 8 ^ d
  | 0, _ => by simp [cmS]
  | d + 1, m => by
    unfold cmS
    have h : ns (fun x => if kpB os hs l (m ++ [(x : Int)]) (m.length + 1) = true then cmS os hs l N d (m ++ [(x : Int)]) else 0) N ≤ N * 8 ^ d := ns_le fun x _ => by
      split
      · exact cmS_le hN d _
      · exact Nat.zero_le _
    have h2 : N * 8 ^ d ≤ 8 * 8 ^ d := Nat.mul_le_mul_right _ hN
    rw [Nat.pow_succ, Nat.mul_comm (8 ^ d)]
    omega
theorem cmG_le {os hs l : List Int} {N : Nat} (hN : N ≤ 8) : ∀ (d : Nat) (m : List Int), cmG os hs l N d m ≤ 8 ^ d
  | 0, m => by unfold cmG; split <;> simp
  | d + 1, m => by
    unfold cmG
    have h : ns (fun x => cmG os hs l N d (m ++ [(x : Int)])) N ≤ N * 8 ^ d := ns_le fun x _ => cmG_le hN d _
    have h2 : N * 8 ^ d ≤ 8 * 8 ^ d := Nat.mul_le_mul_right _ hN
    rw [Nat.pow_succ, Nat.mul_comm (8 ^ d)]
    omega
/-- Whether CountFreimanMaps counts, and what it returns. -/
def cfB (os hs : List Int) (a : Int) : Bool := setB os a && (inB (popc a.toNat : Int) 1 4 && (grpB hs && decide (gn hs ≤ 8)))
noncomputable def cfV (os hs : List Int) (a : Int) : Int := if cfB os hs a = true then (cmG os hs (mems a.toNat) (gn hs) (popc a.toNat) [] : Int) else -1
theorem cfB_parts {os hs : List Int} {a : Int} (h : cfB os hs a = true) : grpB os = true ∧ (∃ m : Nat, a = (m : Int) ∧ m < 2 ^ gn os ∧ 1 ≤ popc m ∧ popc m ≤ 4) ∧ grpB hs = true ∧ gn hs ≤ 8 := by
  unfold cfB at h
  simp only [Bool.and_eq_true, decide_eq_true_eq, inB_true] at h
  obtain ⟨h1, h2, h3, h4⟩ := h
  obtain ⟨hg, m, rfl, hm⟩ := setB_parts h1
  rw [(grp_gn hg).2.2.2.2] at hm
  rw [Int.toNat_natCast] at h2
  exact ⟨hg, ⟨m, rfl, hm, by omega, by omega⟩, h3, h4⟩
end Go.Proofs.Ytokpgbpdmfibjaa
