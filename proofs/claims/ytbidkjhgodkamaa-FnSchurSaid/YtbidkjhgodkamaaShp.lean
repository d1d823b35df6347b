/-
The longest colorings, plain: their lengths, how many there are, and none is longer; colorings of a group of one order. No condition.
-/
import Derived.Test.YtbidkjhgodkamaaLng2
import Derived.Test.YtbidkjhgodkamaaCnt
import Derived.Test.YtbidkjhgodkamaaGco
import Derived.Test.YtbidkjhgodkamaaSfl
namespace Go.Proofs.Ytbidkjhgodkamaa
open Go.RowKit Go.ChangeShapes
set_option linter.unusedVariables false

/-- ccF, so that it can be reckoned. -/
def ccC (k : Nat) : Nat → List Int → Int
  | 0, _ => 1
  | f + 1, c => sumN (fun x => if fitC (c ++ [(x : Int)]) = true then ccC k f (c ++ [(x : Int)]) else 0) k
theorem ccF_eq (k : Nat) : ∀ f c, ccF k f c = ccC k f c
  | 0, _ => by simp [ccF, ccC]
  | f + 1, c => by
    unfold ccF ccC
    congr 1
    funext x
    rw [fitC_eq, ccF_eq k f]
theorem lc_lens : (lcR 1).length = 1 ∧ (lcR 2).length = 4 ∧ (lcR 3).length = 13 := by decide +kernel
theorem lc_count : (1 ≤ ccC 1 1 [] ∧ ccC 1 2 [] = 0) ∧ (1 ≤ ccC 2 4 [] ∧ ccC 2 5 [] = 0) ∧ (1 ≤ ccC 3 13 [] ∧ ccC 3 14 [] = 0) := by decide +kernel
/-- No triple, so that it can be reckoned. -/
def schC (xs : List Int) : Bool := (List.range (xs.length + 1)).all fun z => (List.range (z / 2)).all fun s => !(xs[s]? == xs[z - 1]? && xs[z - (s + 1) - 1]? == xs[z - 1]?)
theorem schC_no {xs : List Int} (h : schC xs = true) : SchNo xs (xs.length + 1) 0 := by
  intro z x h1 h2 h3 h4 _ hh
  simp only [schC, List.all_eq_true, List.mem_range] at h
  have h5 := h z (by omega) (x - 1) (by omega)
  obtain ⟨g1, g2⟩ := hh
  rw [show x - 1 + 1 = x by omega, g1, g2] at h5
  simp at h5
theorem schB_no {xs : List Int} (h : schC xs = true) : schB xs = false := by
  unfold schB
  split
  · rfl
  · rw [schv_none (schC_no h)]; rfl
theorem lc_fine : (schC (lcR 1) = true ∧ colB (lcR 1) 1 = true) ∧ (schC (lcR 2) = true ∧ colB (lcR 2) 2 = true) ∧ (schC (lcR 3) = true ∧ colB (lcR 3) 3 = true) := by decide +kernel
/-- All about the longest coloring in k colors. -/
theorem lc_all {k : Int} (h : inB k 1 3 = true) : (colB (lgL k) k = true ∧ schB (lgL k) = false) ∧ ((lgL k).length : Int) = [1, 4, 13].getD (k - 1).toNat 0 ∧ (lgL k).length ≤ 13 ∧ 1 ≤ ccF k.toNat (lgL k).length [] ∧ ccF k.toNat ((lgL k).length + 1) [] = 0 := by
  have e : lgL k = lcR k.toNat := by simp [lgL, h]
  obtain ⟨h1, h2⟩ := inB_true.1 h
  obtain ⟨l1, l2, l3⟩ := lc_lens
  obtain ⟨⟨f1, c1⟩, ⟨f2, c2⟩, f3, c3⟩ := lc_fine
  obtain ⟨n1, n2, n3⟩ := lc_count
  have : k = 1 ∨ k = 2 ∨ k = 3 := by omega
  rw [e, ccF_eq, ccF_eq]
  rcases this with rfl | rfl | rfl
  · exact ⟨⟨c1, schB_no f1⟩, by rw [show (1 : Int).toNat = 1 from rfl, l1]; rfl, by rw [show (1 : Int).toNat = 1 from rfl, l1]; decide, by rw [show (1 : Int).toNat = 1 from rfl, l1]; exact n1.1, by rw [show (1 : Int).toNat = 1 from rfl, l1]; exact n1.2⟩
  · exact ⟨⟨c2, schB_no f2⟩, by rw [show (2 : Int).toNat = 2 from rfl, l2]; rfl, by rw [show (2 : Int).toNat = 2 from rfl, l2]; decide, by rw [show (2 : Int).toNat = 2 from rfl, l2]; exact n2.1, by rw [show (2 : Int).toNat = 2 from rfl, l2]; exact n2.2⟩
  · exact ⟨⟨c3, schB_no f3⟩, by rw [show (3 : Int).toNat = 3 from rfl, l3]; rfl, by rw [show (3 : Int).toNat = 3 from rfl, l3]; decide, by rw [show (3 : Int).toNat = 3 from rfl, l3]; exact n3.1, by rw [show (3 : Int).toNat = 3 from rfl, l3]; exact n3.2⟩
/-- A coloring of a cyclic group has no sums of one color. -/
theorem gc_schur {os c : List Int} (h : gcB os c = true) (h1 : os.length = 1) : colB c 4 = true ∧ schB c = false := by
  simp only [gcB, Bool.and_eq_true, decide_eq_true_eq] at h
  obtain ⟨hg, hl, ha, hP⟩ := h
  obtain ⟨g2, g3, g4, g5, g6⟩ := grp_gn hg
  refine ⟨?_, ?_⟩
  · unfold colB
    rw [ha]
    have : (c.length : Int) ≤ 40 := by omega
    simp [this]; rfl
  · have hn : SchNo c (c.length + 1) 0 := by
      intro z x z1 z2 x1 x2 _ ⟨e1, e2⟩
      obtain ⟨o, ho, ho2⟩ := gn_one hg h1
      have hadd : gadd os x (z - x) = z := by
        rw [ho, gadd_one' ho2, show x + (z - x) = z by omega, Nat.mod_eq_of_lt (by omega)]
      have hx := hP (x - 1) (z - x - 1) (by omega) (by omega)
      unfold gcAt at hx
      rw [show x - 1 + 1 = x by omega, show z - x - 1 + 1 = z - x by omega, hadd] at hx
      refine hx (by omega) ⟨?_, ?_⟩
      · unfold cv; rw [List.getD_eq_getElem?_getD, List.getD_eq_getElem?_getD, e1, e2]
      · unfold cv; rw [List.getD_eq_getElem?_getD, List.getD_eq_getElem?_getD, e1]
    unfold schB
    split
    · rfl
    · rw [schv_none hn]; rfl
/-- What the triple is. -/
theorem sch_triple {xs : List Int} (h : schB xs = true) : ∃ z x : Nat, schL xs = [(x : Int), (z : Int) - x, z] ∧ 2 ≤ z ∧ z ≤ xs.length ∧ 1 ≤ x ∧ 2 * x ≤ z ∧ xs[x - 1]? = xs[z - 1]? ∧ xs[z - x - 1]? = xs[z - 1]? := by
  unfold schB at h
  split at h
  · cases h
  · rename_i hl
    cases hv : schv xs with
    | none => rw [hv] at h; cases h
    | some q =>
      obtain ⟨z, x⟩ := q
      have hx : SchAt xs (z, x) := by
        unfold schv at hv
        split at hv
        · rename_i hex
          have := hex.choose_spec
          have e : hex.choose = (z, x) := by simpa using hv
          rw [e] at this
          exact this
        · cases hv
      obtain ⟨b1, b2, b3, b4, b5, b6⟩ := hx
      refine ⟨z, x, ?_, b1, b2, b3, b4, b5⟩
      unfold schL
      rw [if_neg hl, hv]
end Go.Proofs.Ytbidkjhgodkamaa
