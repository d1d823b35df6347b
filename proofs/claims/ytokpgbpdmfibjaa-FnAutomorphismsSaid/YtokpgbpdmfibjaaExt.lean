/-
Places, multiples, and maps that carry the generators of the orders to images, plain. Conditions: orders of a group.
-/
import Derived.Test.YtokpgbpdmfibjaaAut
namespace Go.Proofs.Ytokpgbpdmfibjaa
open Go.RowKit Go.ChangeShapes
set_option linter.unusedVariables false

/-- The places of an element. -/
def plL : List Int → Nat → List Int
  | [], _ => []
  | o :: os, x => ((x % o.toNat : Nat) : Int) :: plL os (x / o.toNat)
/-- A multiple of an element. -/
def gmul (os : List Int) (x : Nat) : Nat → Nat
  | 0 => 0
  | n + 1 => gadd os (gmul os x n) x
theorem plL_len : ∀ (os : List Int) (x : Nat), (plL os x).length = os.length
  | [], _ => rfl
  | o :: os, x => by simp [plL, plL_len os]
theorem plL_bd : ∀ {os : List Int} (_ : ordsIn os = true) (x : Nat), ∀ y ∈ plL os x, 0 ≤ y ∧ y < 24
  | [], _, _, y, hy => by simp [plL] at hy
  | o :: os, h, x, y, hy => by
    obtain ⟨⟨n, rfl, h2, h3⟩, h'⟩ := ordsIn_cons h
    simp only [plL, Int.toNat_natCast, List.mem_cons] at hy
    have hm : x % n < n := Nat.mod_lt _ (by omega)
    rcases hy with rfl | hy
    · omega
    · exact plL_bd h' _ y hy
theorem gmul_lt {os : List Int} (h : ordsIn os = true) (x n : Nat) : gmul os x n < gn os := by
  cases n with
  | zero =>
    have := gord_pos h
    show 0 < gn os
    unfold gn; omega
  | succ n => exact gadd_lt' h _ _
/-- The map's value by the first k generators. -/
def exZ (os im ps : List Int) : Nat → Nat
  | 0 => 0
  | k + 1 => gadd os (exZ os im ps k) (gmul os (elt im k) (elt ps k))
def ext (os im : List Int) (x : Nat) : Nat := exZ os im (plL os x) os.length
/-- The map as a list. -/
def extL (os im : List Int) : List Int := (List.range (gn os)).map fun x => (ext os im x : Int)
theorem extL_len (os im : List Int) : (extL os im).length = gn os := by simp [extL]
theorem extL_elt {os im : List Int} {x : Nat} (h : x < gn os) : elt (extL os im) x = ext os im x := by
  unfold elt extL
  rw [List.getD_eq_getElem?_getD, List.getElem?_map, List.getElem?_range h]
  simp
/-- The element with 1 at one place. -/
def unitE : List Int → Nat → Nat
  | [], _ => 0
  | _ :: _, 0 => 1
  | o :: os, i + 1 => o.toNat * unitE os i
theorem unitE_lt : ∀ {os : List Int} (_ : ordsIn os = true) (i : Nat), i < os.length → unitE os i < gn os
  | [], _, _, h => by simp at h
  | o :: os, h, 0, _ => by
    obtain ⟨⟨n, rfl, h2, h3⟩, h'⟩ := ordsIn_cons h
    rw [gn_cons h']
    have := gord_pos h'
    have h1 : 1 ≤ gn os := by unfold gn; omega
    have := Nat.mul_le_mul h2 h1
    show 1 < _
    omega
  | o :: os, h, i + 1, hi => by
    obtain ⟨⟨n, rfl, h2, h3⟩, h'⟩ := ordsIn_cons h
    rw [gn_cons h']
    have := unitE_lt h' i (by simpa using hi)
    simp only [unitE, Int.toNat_natCast]
    exact Nat.mul_lt_mul_of_pos_left this (by omega)
theorem plL_zero : ∀ {os : List Int} (j : Nat), elt (plL os 0) j = 0
  | [], j => by simp [plL, elt, List.getD]
  | o :: os, 0 => by simp [plL, elt, List.getD]
  | o :: os, j + 1 => by
    have := plL_zero (os := os) j
    unfold elt at *
    simpa [plL, List.getD] using this
theorem plL_unit : ∀ {os : List Int} (_ : ordsIn os = true) (i j : Nat), i < os.length → elt (plL os (unitE os i)) j = if j = i then 1 else 0
  | [], _, _, _, h => by simp at h
  | o :: os, h, 0, 0, _ => by
    obtain ⟨⟨n, rfl, h2, h3⟩, h'⟩ := ordsIn_cons h
    have : 1 % n = 1 := Nat.mod_eq_of_lt (by omega)
    simp [plL, unitE, elt, List.getD, this]
  | o :: os, h, 0, j + 1, _ => by
    obtain ⟨⟨n, rfl, h2, h3⟩, h'⟩ := ordsIn_cons h
    have h4 : 1 / n = 0 := Nat.div_eq_of_lt (by omega)
    have := plL_zero (os := os) j
    unfold elt at *
    simpa [plL, unitE, List.getD, h4] using this
  | o :: os, h, i + 1, 0, _ => by
    obtain ⟨⟨n, rfl, h2, h3⟩, h'⟩ := ordsIn_cons h
    simp [plL, unitE, elt, List.getD]
  | o :: os, h, i + 1, j + 1, hi => by
    obtain ⟨⟨n, rfl, h2, h3⟩, h'⟩ := ordsIn_cons h
    have h4 : n * unitE os i / n = unitE os i := Nat.mul_div_cancel_left _ (by omega)
    have := plL_unit h' i j (by simpa using hi)
    unfold elt at *
    simpa [plL, unitE, List.getD, h4] using this
theorem gadd_zz : ∀ {os : List Int}, gadd os 0 0 = 0
  | [] => rfl
  | o :: os => by simp [gadd, gadd_zz (os := os)]
theorem gmul_one {n : Nat} {os : List Int} (h2 : 2 ≤ n) : ∀ m, gmul ((n : Int) :: os) 1 m = m % n
  | 0 => by simp [gmul]
  | m + 1 => by
    have h1 : 1 % n = 1 := Nat.mod_eq_of_lt (by omega)
    have h4 : 1 / n = 0 := Nat.div_eq_of_lt (by omega)
    have h5 : m % n / n = 0 := Nat.div_eq_of_lt (Nat.mod_lt _ (by omega))
    rw [gmul, gmul_one h2 m]
    simp only [gadd, Int.toNat_natCast, h1, h4, h5, gadd_zz, Nat.mul_zero, Nat.add_zero, Nat.mod_mod]
    rw [Nat.mod_add_mod]
theorem gmul_mul {n : Nat} {os : List Int} (h2 : 2 ≤ n) (y : Nat) : ∀ m, gmul ((n : Int) :: os) (n * y) m = n * gmul os y m
  | 0 => by simp [gmul]
  | m + 1 => by
    rw [gmul, gmul_mul h2 y m, gmul]
    simp only [gadd, Int.toNat_natCast, Nat.mul_mod_right, Nat.mul_div_cancel_left _ (show 0 < n by omega), Nat.zero_mod, Nat.zero_add, Nat.add_zero]
/-- An order times its generator is 0. -/
theorem gmul_unit : ∀ {os : List Int} (_ : ordsIn os = true) (i : Nat), i < os.length → gmul os (unitE os i) (elt os i) = 0
  | [], _, _, h => by simp at h
  | o :: os, h, 0, _ => by
    obtain ⟨⟨n, rfl, h2, h3⟩, h'⟩ := ordsIn_cons h
    have e : elt ((n : Int) :: os) 0 = n := by simp [elt, List.getD]
    rw [e]
    show gmul _ 1 n = 0
    rw [gmul_one h2, Nat.mod_self]
  | o :: os, h, i + 1, hi => by
    obtain ⟨⟨n, rfl, h2, h3⟩, h'⟩ := ordsIn_cons h
    have e : elt ((n : Int) :: os) (i + 1) = elt os i := by simp [elt, List.getD]
    rw [e]
    show gmul _ (((n : Int)).toNat * unitE os i) _ = 0
    rw [Int.toNat_natCast, gmul_mul h2, gmul_unit h' i (by simpa using hi), Nat.mul_zero]
theorem exZ_unit {os im ps : List Int} (h : ordsIn os = true) {i : Nat} (hi : elt im i < gn os) (hp : ∀ j, elt ps j = if j = i then 1 else 0) : ∀ k, exZ os im ps k = if i < k then elt im i else 0
  | 0 => by simp [exZ]
  | k + 1 => by
    have h0 : 0 < gn os := by omega
    rw [exZ, exZ_unit h hi hp k, hp k]
    by_cases e : k = i
    · subst e
      simp only [if_true, Nat.lt_irrefl, if_false, Nat.lt_succ_self]
      show gadd os 0 (gadd os 0 (elt im k)) = _
      rw [zero_gadd h _ hi, zero_gadd h _ hi]
    · rw [if_neg e]
      show gadd os _ 0 = _
      by_cases h2 : i < k
      · rw [if_pos h2, if_pos (by omega), gadd_zero h _ hi]
      · rw [if_neg h2, if_neg (by omega), gadd_zero h _ h0]
theorem ext_unit {os im : List Int} (h : ordsIn os = true) {i : Nat} (hi : i < os.length) (hm : elt im i < gn os) : ext os im (unitE os i) = elt im i := by
  unfold ext
  rw [exZ_unit h hm (fun j => plL_unit h i j hi), if_pos hi]
theorem ext_zero {os im : List Int} (h : ordsIn os = true) : ext os im 0 = 0 := by
  have h0 : 0 < gn os := by
    have := gord_pos h
    unfold gn; omega
  have : ∀ k, exZ os im (plL os 0) k = 0 := by
    intro k
    induction k with
    | zero => rfl
    | succ k ih =>
      rw [exZ, ih, plL_zero]
      exact gadd_zero h _ h0
  exact this _
/-- The images' orders divide the generators' orders. -/
def fineB (os im : List Int) : Bool := (List.range os.length).all fun i => gmul os (elt im i) (elt os i) == 0
/-- A map that keeps sums is fine. -/
theorem aut_fine {os im : List Int} (hg : grpB os = true) (hm : ∀ i, i < os.length → elt im i < gn os) (h : autB os (extL os im) = true) : fineB os im = true := by
  obtain ⟨g2, g3, g4, g5, g6⟩ := grp_gn hg
  unfold autB at h
  simp only [Bool.and_eq_true] at h
  have hP : autP os (extL os im) := @of_decide_eq_true _ (Classical.propDecidable _) h.2.2
  have hadd : ∀ x y, x < gn os → y < gn os → ext os im (gadd os x y) = gadd os (ext os im x) (ext os im y) := fun x y hx hy => by
    have := hP x y hx hy
    unfold autAt at this
    rwa [extL_elt (gadd_lt' g2 x y), extL_elt hx, extL_elt hy] at this
  have hmul : ∀ x n, x < gn os → ext os im (gmul os x n) = gmul os (ext os im x) n := fun x n hx => by
    induction n with
    | zero => exact ext_zero g2
    | succ n ih => rw [gmul, hadd _ _ (gmul_lt g2 x n) hx, ih, gmul]
  unfold fineB
  rw [List.all_eq_true]
  intro i hi
  rw [List.mem_range] at hi
  rw [beq_iff_eq]
  have h1 := hmul (unitE os i) (elt os i) (unitE_lt g2 i hi)
  rw [gmul_unit g2 i hi, ext_zero g2, ext_unit g2 hi (hm i hi)] at h1
  exact h1.symm

/-- What one choice of images gives. -/
noncomputable def tstA (os im : List Int) : List (List Int) := if autB os (extL os im) = true then [extL os im] else []
/-- All choices that go on from some images. -/
noncomputable def auGo (os : List Int) (N : Nat) : Nat → List Int → List (List Int)
  | 0, im => tstA os im
  | d + 1, im => (List.range N).flatMap fun (x : Nat) => auGo os N d (im ++ [(x : Int)])
/-- The digits of a number, the first one greatest. -/
def dgts (N : Nat) : Nat → Nat → List Int
  | 0, _ => []
  | d + 1, c => dgts N d (c / N) ++ [((c % N : Nat) : Int)]
theorem flatMap_range_mul (f : Nat → List (List Int)) (N : Nat) (hN : 0 < N) : ∀ M, (List.range (M * N)).flatMap f = (List.range M).flatMap fun q => (List.range N).flatMap fun x => f (q * N + x)
  | 0 => by simp
  | M + 1 => by
    rw [Nat.succ_mul, List.range_add, List.flatMap_append, flatMap_range_mul f N hN M, List.range_succ, List.flatMap_append]
    congr 1
    simp [List.flatMap_map]
theorem dgts_cons {N : Nat} (hN : 0 < N) {x : Nat} (hx : x < N) : ∀ (d c : Nat), c < N ^ d → dgts N (d + 1) (x * N ^ d + c) = (x : Int) :: dgts N d c
  | 0, c, hc => by
    obtain rfl : c = 0 := by simp at hc; omega
    simp [dgts, Nat.mod_eq_of_lt hx]
  | d + 1, c, hc => by
    have e1 : (x * N ^ (d + 1) + c) / N = x * N ^ d + c / N := by
      rw [Nat.pow_succ, ← Nat.mul_assoc, Nat.mul_comm _ N, Nat.mul_add_div hN]
    have e2 : (x * N ^ (d + 1) + c) % N = c % N := by
      rw [Nat.pow_succ, ← Nat.mul_assoc, Nat.mul_comm _ N, Nat.mul_add_mod]
    have hc2 : c / N < N ^ d := by
      rw [Nat.div_lt_iff_lt_mul hN]
      rw [Nat.pow_succ] at hc
      exact hc
    rw [dgts, e1, e2, dgts_cons hN hx d _ hc2]
    rfl
theorem fm_congr {α β : Type} {f g : α → List β} : ∀ {l : List α}, (∀ x ∈ l, f x = g x) → l.flatMap f = l.flatMap g
  | [], _ => rfl
  | x :: l, h => by
    rw [List.flatMap_cons, List.flatMap_cons, h x (by simp), fm_congr (fun y hy => h y (by simp [hy]))]
theorem auGo_eq (os : List Int) {N : Nat} (hN : 0 < N) : ∀ d im, auGo os N d im = (List.range (N ^ d)).flatMap fun c => tstA os (im ++ dgts N d c)
  | 0, im => by simp [auGo, dgts]
  | d + 1, im => by
    have hp : 0 < N ^ d := Nat.pow_pos hN
    rw [Nat.pow_succ, Nat.mul_comm, flatMap_range_mul _ _ hp]
    show (List.range N).flatMap (fun (x : Nat) => auGo os N d (im ++ [(x : Int)])) = _
    apply fm_congr
    intro x hx
    rw [List.mem_range] at hx
    rw [auGo_eq os hN d]
    apply fm_congr
    intro c hc
    rw [List.mem_range] at hc
    rw [dgts_cons hN hx d c hc, List.append_assoc]
    rfl
theorem tstA_len (os im : List Int) : (tstA os im).length ≤ 1 := by unfold tstA; split <;> simp
theorem auGo_len (os : List Int) (N : Nat) : ∀ d im, (auGo os N d im).length ≤ N ^ d
  | 0, im => tstA_len os im
  | d + 1, im => by
    show ((List.range N).flatMap (fun (x : Nat) => auGo os N d (im ++ [(x : Int)]))).length ≤ _
    have : ∀ M, ((List.range M).flatMap (fun (x : Nat) => auGo os N d (im ++ [(x : Int)]))).length ≤ M * N ^ d := by
      intro M
      induction M with
      | zero => simp
      | succ M ih =>
        rw [List.range_succ, List.flatMap_append, List.length_append, Nat.succ_mul]
        have := auGo_len os N d (im ++ [(M : Int)])
        simp only [List.flatMap_cons, List.flatMap_nil, List.append_nil]
        omega
    have := this N
    rw [Nat.pow_succ, Nat.mul_comm]
    exact this
theorem tstA_mem {os im : List Int} : ∀ f ∈ tstA os im, autB os f = true := by
  intro f hf
  unfold tstA at hf
  split at hf
  · rename_i h
    simp at hf
    subst hf; exact h
  · simp at hf
theorem auGo_mem {os : List Int} {N : Nat} : ∀ {d im}, ∀ f ∈ auGo os N d im, autB os f = true
  | 0, im, f, hf => tstA_mem f hf
  | d + 1, im, f, hf => by
    have hf' : f ∈ (List.range N).flatMap (fun (x : Nat) => auGo os N d (im ++ [(x : Int)])) := hf
    rw [List.mem_flatMap] at hf'
    obtain ⟨x, _, hx⟩ := hf'
    exact auGo_mem f hx
/-- All automorphisms of a group. -/
noncomputable def autL (os : List Int) : List (List Int) := auGo os (gn os) os.length []
end Go.Proofs.Ytokpgbpdmfibjaa
