/-
Solutions of an equation in numbers from 1 to n, in lexicographic order, as plain lists: with a test of each further number, and with a test of each solution. No condition.
-/
import Derived.Test.YtokpgbpdmfibjaaNum
namespace Go.Proofs.Ytokpgbpdmfibjaa
set_option linter.unusedVariables false

/-- The products of the coefficients and the numbers, added up. -/
def lin : List Int → List Int → Int
  | c :: cs, x :: xs => c * x + lin cs xs
  | _, _ => 0
theorem lin_nil (c : List Int) : lin c [] = 0 := by cases c <;> rfl
theorem lin_snoc : ∀ (c p : List Int) (y : Int) (h : p.length < c.length), lin c (p ++ [y]) = lin c p + c[p.length] * y
  | [], p, y, h => by simp at h
  | c :: cs, [], y, h => by simp [lin, lin_nil]
  | c :: cs, x :: p, y, h => by
    have ih := lin_snoc cs p y (by simpa using h)
    simp only [List.cons_append, lin, ih, List.length_cons, List.getElem_cons_succ]
    omega
theorem lin_bd : ∀ (c p : List Int), (∀ x ∈ c, -9 ≤ x ∧ x ≤ 9) → (∀ y ∈ p, 1 ≤ y ∧ y ≤ 12) → -(108 * (p.length : Int)) ≤ lin c p ∧ lin c p ≤ 108 * p.length
  | [], p, _, _ => by simp [lin]; omega
  | c :: cs, [], _, _ => by simp [lin]
  | c :: cs, x :: p, hc, hp => by
    have ih := lin_bd cs p (fun x h => hc x (List.mem_cons_of_mem _ h)) (fun x h => hp x (List.mem_cons_of_mem _ h))
    obtain ⟨h1, h2⟩ := hc c (List.mem_cons_self ..)
    obtain ⟨h3, h4⟩ := hp x (List.mem_cons_self ..)
    have h5 : c * x ≤ 9 * x := Int.mul_le_mul_of_nonneg_right h2 (by omega)
    have h6 : -9 * x ≤ c * x := Int.mul_le_mul_of_nonneg_right h1 (by omega)
    simp only [lin, List.length_cons]
    omega
theorem lin_take {c x : List Int} {k : Nat} (h1 : k < c.length) (h2 : k < x.length) : lin c (x.take (k + 1)) = lin c (x.take k) + c[k] * x[k] := by
  rw [List.take_succ_eq_append_getElem h2, lin_snoc c (x.take k) x[k] (by simp; omega)]
  congr 2
  simp [Nat.min_eq_left (Nat.le_of_lt h2)]

/-- The solutions that go on from x by d numbers; ok tells whether a number may come behind others. -/
def solL (c : List Int) (n : Nat) (ok : List Int → Int → Bool) : Nat → List Int → List (List Int)
  | 0, x => if lin c x = 0 then [x] else []
  | d + 1, x => (List.range' 1 n).flatMap fun y : Nat => if ok x (y : Int) = true then solL c n ok d (x ++ [(y : Int)]) else []
/-- The numbers from y on. -/
def solF (c : List Int) (n : Nat) (ok : List Int → Int → Bool) (d : Nat) (x : List Int) (y : Nat) : List (List Int) :=
  (List.range' y (n + 1 - y)).flatMap fun y : Nat => if ok x (y : Int) = true then solL c n ok d (x ++ [(y : Int)]) else []
theorem solF_one (c : List Int) (n : Nat) (ok : List Int → Int → Bool) (d : Nat) (x : List Int) : solF c n ok d x 1 = solL c n ok (d + 1) x := by
  simp [solF, solL]
theorem solF_end {c : List Int} {n : Nat} {ok : List Int → Int → Bool} {d : Nat} {x : List Int} {y : Nat} (h : n < y) : solF c n ok d x y = [] := by
  simp [solF, show n + 1 - y = 0 by omega]
theorem solF_step {c : List Int} {n : Nat} {ok : List Int → Int → Bool} {d : Nat} {x : List Int} {y : Nat} (h : y ≤ n) :
    solF c n ok d x y = (if ok x (y : Int) = true then solL c n ok d (x ++ [(y : Int)]) else []) ++ solF c n ok d x (y + 1) := by
  simp only [solF]
  rw [show n + 1 - y = (n + 1 - (y + 1)) + 1 by omega, List.range'_succ, List.flatMap_cons]
theorem solL_mem {c : List Int} {n : Nat} {ok : List Int → Int → Bool} : ∀ {d : Nat} {x z : List Int}, z ∈ solL c n ok d x → ∃ t, z = x ++ t ∧ t.length = d ∧ (∀ y ∈ t, 1 ≤ y ∧ y ≤ (n : Int)) ∧ lin c z = 0
  | 0, x, z, h => by
    simp only [solL] at h
    split at h
    · rename_i h0
      obtain rfl : z = x := by simpa using h
      exact ⟨[], by simp, rfl, by simp, h0⟩
    · simp at h
  | d + 1, x, z, h => by
    simp only [solL, List.mem_flatMap, List.mem_range'_1] at h
    obtain ⟨y, hy, h⟩ := h
    split at h
    · obtain ⟨t, h1, h2, h3, h4⟩ := solL_mem h
      refine ⟨(y : Int) :: t, by simp [h1], by simp [h2], fun u hu => ?_, h4⟩
      rcases List.mem_cons.1 hu with hu | hu
      · subst hu; omega
      · exact h3 u hu
    · simp at h
theorem solL_in {c : List Int} {n : Nat} : ∀ (t x : List Int), (∀ y ∈ t, 1 ≤ y ∧ y ≤ (n : Int)) → lin c (x ++ t) = 0 → x ++ t ∈ solL c n (fun _ _ => true) t.length x
  | [], x, _, h => by simp [solL] at *; exact h
  | y :: t, x, h, h0 => by
    simp only [List.length_cons, solL, List.mem_flatMap, List.mem_range'_1]
    have hy := h y (List.mem_cons_self ..)
    refine ⟨y.toNat, by omega, ?_⟩
    have e : ((y.toNat : Nat) : Int) = y := by omega
    rw [e]
    have := solL_in t (x ++ [y]) (fun z hz => h z (List.mem_cons_of_mem _ hz)) (by simpa using h0)
    simpa using this
theorem solL_len (c : List Int) (n : Nat) (ok : List Int → Int → Bool) : ∀ (d : Nat) (x : List Int), (solL c n ok d x).length ≤ n ^ d
  | 0, x => by simp only [solL]; split <;> simp
  | d + 1, x => by
    have key : ∀ (l : List Nat), (l.flatMap fun y : Nat => if ok x (y : Int) = true then solL c n ok d (x ++ [(y : Int)]) else []).length ≤ l.length * n ^ d := by
      intro l
      induction l with
      | nil => simp
      | cons y l ih =>
        rw [List.flatMap_cons, List.length_append, List.length_cons, Nat.add_mul, Nat.one_mul]
        have h1 : (if ok x (y : Int) = true then solL c n ok d (x ++ [(y : Int)]) else []).length ≤ n ^ d := by
          split
          · exact solL_len c n ok d _
          · simp
        omega
    have h := key (List.range' 1 n)
    rw [List.length_range'] at h
    simp only [solL]
    rw [Nat.pow_succ, Nat.mul_comm]
    exact h

/-- One color for all numbers of a list: that of the first. -/
def mono (cs : List Int) (x : List Int) : Bool := x.all fun k => cs.getD (k - 1).toNat 0 == cs.getD (x.headD 0 - 1).toNat 0
/-- Whether a number may come behind others: it has the first one's color. -/
def okM (cs : List Int) (x : List Int) (y : Int) : Bool := x.isEmpty || (cs.getD (y - 1).toNat 0 == cs.getD (x.headD 0 - 1).toNat 0)
theorem mono_snoc (cs x : List Int) (y : Int) : mono cs (x ++ [y]) = (mono cs x && okM cs x y) := by
  cases x with
  | nil => simp [mono, okM]
  | cons a t => simp [mono, okM]
theorem mono_no {cs x : List Int} (h : mono cs x = false) (t : List Int) : mono cs (x ++ t) = false := by
  cases x with
  | nil => simp [mono] at h
  | cons a u =>
    simp only [mono, List.cons_append, List.headD_cons] at h ⊢
    rw [← List.cons_append, List.all_append, h]
    rfl
/-- The test at each number tells the same as the test of all. -/
theorem solL_mono (c : List Int) (n : Nat) (cs : List Int) : ∀ (d : Nat) (x : List Int), mono cs x = true → solL c n (okM cs) d x = (solL c n (fun _ _ => true) d x).filter (mono cs)
  | 0, x, h => by
    simp only [solL]
    split
    · simp [h]
    · rfl
  | d + 1, x, h => by
    simp only [solL]
    rw [List.filter_flatMap]
    congr 1
    funext y
    have hs := mono_snoc cs x (y : Int)
    rw [h, Bool.true_and] at hs
    cases ho : okM cs x (y : Int) with
    | true =>
      simp only [if_true]
      exact solL_mono c n cs d _ (by rw [hs, ho])
    | false =>
      simp only [if_true, Bool.false_eq_true, if_false]
      symm
      rw [List.filter_eq_nil_iff]
      intro z hz
      obtain ⟨t, rfl, -⟩ := solL_mem hz
      rw [mono_no (by rw [hs, ho]) t]
      decide

/-- The lists up to the first with a property, it too. -/
def upTo (p : List Int → Bool) : List (List Int) → List (List Int)
  | [] => []
  | x :: t => if p x = true then [x] else x :: upTo p t
theorem upTo_app (p : List Int → Bool) : ∀ (l m : List (List Int)), upTo p (l ++ m) = if l.any p = true then upTo p l else upTo p l ++ upTo p m
  | [], m => by simp [upTo]
  | x :: t, m => by
    have ih := upTo_app p t m
    simp only [List.cons_append, upTo, List.any_cons]
    by_cases h : p x = true
    · simp [h]
    · by_cases h2 : t.any p = true <;> simp [h, ih, h2]
theorem upTo_len (p : List Int → Bool) : ∀ l : List (List Int), (upTo p l).length ≤ l.length
  | [] => Nat.le_refl _
  | x :: t => by
    have := upTo_len p t
    unfold upTo
    split <;> simp <;> omega
theorem upTo_none (l : List (List Int)) : upTo (fun _ => false) l = l := by
  induction l with
  | nil => rfl
  | cons x t ih => simp [upTo, ih]
/-- The first with the property. -/
theorem upTo_find (p : List Int → Bool) (l : List (List Int)) : (upTo p l).find? p = l.find? p := by
  induction l with
  | nil => rfl
  | cons x t ih =>
    simp only [upTo]
    cases h : p x with
    | true => simp [h]
    | false => simp [h, ih]
theorem find_head (p : List Int → Bool) (l : List (List Int)) : (l.filter p).head? = l.find? p := by
  simp
end Go.Proofs.Ytokpgbpdmfibjaa
