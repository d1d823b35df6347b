/-
Colorings without a solution of one color, as plain lists: the search that goes on number by number, and all colorings by their codes. No condition.
-/
import Derived.Test.YtokpgbpdmfibjaaSol
namespace Go.Proofs.Ytokpgbpdmfibjaa
set_option linter.unusedVariables false

/-- Whether a coloring has a solution of one color. -/
def hasM (c cs : List Int) : Bool := (solL c cs.length (fun _ _ => true) c.length []).any (mono cs)
theorem getD_app_lt {cs es : List Int} {i : Nat} (h : i < cs.length) : (cs ++ es).getD i 0 = cs.getD i 0 := by
  rw [List.getD_eq_getElem?_getD, List.getD_eq_getElem?_getD, List.getElem?_append_left h]
theorem hasM_app {c cs : List Int} (h : hasM c cs = true) (es : List Int) : hasM c (cs ++ es) = true := by
  simp only [hasM, List.any_eq_true] at h ⊢
  obtain ⟨z, hz, hm⟩ := h
  obtain ⟨t, ht, h1, h2, h3⟩ := solL_mem hz
  rw [List.nil_append] at ht
  subst ht
  refine ⟨z, ?_, ?_⟩
  · have := solL_in (c := c) (n := (cs ++ es).length) z [] (fun y hy => by have := h2 y hy; simp; omega) (by simpa using h3)
    rw [h1] at this
    simpa using this
  · cases z with
    | nil => rfl
    | cons a u =>
      have hk : ∀ k ∈ a :: u, (cs ++ es).getD (k - 1).toNat 0 = cs.getD (k - 1).toNat 0 := fun k hk => by
        have := h2 k hk
        exact getD_app_lt (by omega)
      simp only [mono, List.all_eq_true, List.headD_cons, beq_iff_eq] at hm ⊢
      intro k hk'
      rw [hk k hk', hk a (List.mem_cons_self ..)]
      exact hm k hk'
theorem hasM_nil {c : List Int} (h : 0 < c.length) : hasM c [] = false := by
  obtain ⟨m, hm⟩ : ∃ m, c.length = m + 1 := ⟨c.length - 1, by omega⟩
  simp [hasM, hm, solL]

/-- Whether f more colors below k can follow without a solution of one color. -/
def avB (c : List Int) (k : Nat) : Nat → List Int → Bool
  | 0, cs => !hasM c cs
  | f + 1, cs => !hasM c cs && (List.range k).any fun x => avB c k f (cs ++ [(x : Int)])
theorem avB_has {c cs : List Int} {k : Nat} (h : hasM c cs = true) : ∀ f, avB c k f cs = false
  | 0 => by simp [avB, h]
  | f + 1 => by simp [avB, h]
theorem avB_iff (c : List Int) (k : Nat) : ∀ (f : Nat) (cs : List Int), avB c k f cs = true ↔ ∃ t : List Int, t.length = f ∧ (∀ x ∈ t, 0 ≤ x ∧ x < (k : Int)) ∧ hasM c (cs ++ t) = false
  | 0, cs => by
    simp only [avB, Bool.not_eq_true']
    constructor
    · intro h; exact ⟨[], rfl, by simp, by simpa using h⟩
    · rintro ⟨t, h1, -, h2⟩
      obtain rfl := List.eq_nil_of_length_eq_zero h1
      simpa using h2
  | f + 1, cs => by
    simp only [avB, Bool.and_eq_true, Bool.not_eq_true', List.any_eq_true, List.mem_range]
    constructor
    · rintro ⟨h1, x, hx, h2⟩
      obtain ⟨t, h3, h4, h5⟩ := (avB_iff c k f _).1 h2
      refine ⟨(x : Int) :: t, by simp [h3], fun y hy => ?_, by simpa using h5⟩
      rcases List.mem_cons.1 hy with hy | hy
      · subst hy; omega
      · exact h4 y hy
    · rintro ⟨t, h1, h2, h3⟩
      cases t with
      | nil => simp at h1
      | cons a t =>
        have ha := h2 a (List.mem_cons_self ..)
        refine ⟨?_, a.toNat, by omega, (avB_iff c k f _).2 ⟨t, by simpa using h1, fun y hy => h2 y (List.mem_cons_of_mem _ hy), ?_⟩⟩
        · cases h : hasM c cs with
          | false => rfl
          | true => rw [hasM_app h] at h3; cases h3
        · rw [show ((a.toNat : Nat) : Int) = a by omega]
          simpa using h3

/-- The last n bits of a code as colors. -/
def bitL (n m : Nat) : List Int := (List.range n).map fun i => ((m / 2 ^ i % 2 : Nat) : Int)
theorem bitL_len (n m : Nat) : (bitL n m).length = n := by simp [bitL]
theorem bitL_bd (n m : Nat) : ∀ x ∈ bitL n m, 0 ≤ x ∧ x < 2 := by
  intro x hx
  simp only [bitL, List.mem_map, List.mem_range] at hx
  obtain ⟨i, _, rfl⟩ := hx
  omega
theorem bitL_zero (n : Nat) : bitL n 0 = List.replicate n 0 := by
  simp only [bitL]
  rw [List.eq_replicate_iff]
  refine ⟨by simp, fun x hx => ?_⟩
  simp only [List.mem_map, List.mem_range] at hx
  obtain ⟨i, _, rfl⟩ := hx
  simp
theorem bitL_succ (n m : Nat) : bitL (n + 1) m = ((m % 2 : Nat) : Int) :: bitL n (m / 2) := by
  simp only [bitL, List.range_succ_eq_map, List.map_cons, List.map_map]
  congr 1
  · simp
  · apply List.map_congr_left
    intro i _
    simp only [Function.comp, Nat.succ_eq_add_one]
    rw [Nat.pow_succ, Nat.mul_comm, ← Nat.div_div_eq_div_mul]
theorem bitL_code : ∀ (t : List Int), (∀ x ∈ t, 0 ≤ x ∧ x < 2) → ∃ m, m < 2 ^ t.length ∧ bitL t.length m = t
  | [], _ => ⟨0, by simp, rfl⟩
  | a :: t, h => by
    obtain ⟨m, h1, h2⟩ := bitL_code t (fun x hx => h x (List.mem_cons_of_mem _ hx))
    have ha := h a (List.mem_cons_self ..)
    refine ⟨2 * m + a.toNat, by rw [List.length_cons, Nat.pow_succ]; omega, ?_⟩
    rw [List.length_cons, bitL_succ, show (2 * m + a.toNat) / 2 = m by omega, h2, show (((2 * m + a.toNat) % 2 : Nat) : Int) = a by omega]

/-- All colorings of n numbers by k colors (1 or 2) have a solution of one color. -/
def allM (c : List Int) (k n : Nat) : Bool := (List.range (if k = 1 then 1 else 2 ^ n)).all fun m => hasM c (bitL n m)
theorem allM_iff (c : List Int) (k n : Nat) (h1 : 1 ≤ k) (h2 : k ≤ 2) : allM c k n = !avB c k n [] := by
  cases hv : avB c k n [] with
  | true =>
    obtain ⟨t, h3, h4, h5⟩ := (avB_iff c k n []).1 hv
    obtain ⟨m, h6, h7⟩ := bitL_code t (fun x hx => by have := h4 x hx; omega)
    simp only [allM, Bool.not_true, List.all_eq_false, List.mem_range]
    rw [h3] at h6 h7
    rw [List.nil_append, ← h7] at h5
    by_cases hk : k = 1
    · refine ⟨0, by simp [hk], ?_⟩
      have e : t = List.replicate n 0 := by
        rw [List.eq_replicate_iff]
        exact ⟨h3, fun x hx => by have := h4 x hx; omega⟩
      rw [bitL_zero, ← e, ← h7, h5]
      decide
    · refine ⟨m, by rw [if_neg hk]; exact h6, by rw [h5]; decide⟩
  | false =>
    simp only [allM, Bool.not_false, List.all_eq_true, List.mem_range]
    intro m hm
    cases hh : hasM c (bitL n m) with
    | true => rfl
    | false =>
      have : avB c k n [] = true := (avB_iff c k n []).2 ⟨bitL n m, bitL_len n m, fun x hx => by
        have h8 := bitL_bd n m x hx
        by_cases hk : k = 1
        · rw [if_pos hk] at hm
          obtain rfl : m = 0 := by omega
          rw [bitL_zero] at hx
          have := List.eq_of_mem_replicate hx
          omega
        · omega, by simpa using hh⟩
      rw [hv] at this; cases this
/-- The least of the numbers n, n + 1, .. (f of them) for which all colorings have one; 0 if there is none. -/
def radoF (c : List Int) (k : Nat) : Nat → Nat → Int
  | 0, _ => 0
  | f + 1, n => if allM c k n = true then (n : Int) else radoF c k f (n + 1)
end Go.Proofs.Ytokpgbpdmfibjaa
