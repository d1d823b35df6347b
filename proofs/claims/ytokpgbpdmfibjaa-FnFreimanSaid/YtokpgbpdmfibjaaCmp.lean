/-
The number of maps that keep sums: at least as many as elements, and a power of 2 for the group of two elements; plain. No condition.
-/
import Derived.Test.YtokpgbpdmfibjaaCml
namespace Go.Proofs.Ytokpgbpdmfibjaa
open Go.RowKit Go.ChangeShapes
set_option linter.unusedVariables false

/-- How many lists of length d of numbers below N have a property. -/
noncomputable def vc (N : Nat) : Nat → (List Int → Bool) → Nat
  | 0, P => if P [] = true then 1 else 0
  | d + 1, P => ns (fun x => vc N d (fun t => P ((x : Int) :: t))) N
theorem cmG_vc (os hs l : List Int) (N : Nat) : ∀ (d : Nat) (m : List Int), cmG os hs l N d m = vc N d (fun t => kpB os hs l (m ++ t) l.length)
  | 0, m => by unfold cmG vc; simp only [List.append_nil]
  | d + 1, m => by
    unfold cmG vc
    refine ns_congr fun x _ => ?_
    rw [cmG_vc os hs l N d]
    congr 1
    funext t
    rw [List.append_assoc]
    rfl
theorem ns_mem_le {f : Nat → Nat} : ∀ {n i : Nat}, i < n → f i ≤ ns f n
  | n + 1, i, h => by
    show f i ≤ ns f n + f n
    by_cases e : i = n
    · subst e; omega
    · have := ns_mem_le (f := f) (n := n) (i := i) (by omega)
      omega
theorem vc_pos {N x : Nat} (hx : x < N) : ∀ (d : Nat) (P : List Int → Bool), P (List.replicate d (x : Int)) = true → 1 ≤ vc N d P
  | 0, P, h => by unfold vc; rw [if_pos (by simpa using h)]; exact Nat.le_refl _
  | d + 1, P, h => by
    unfold vc
    have := vc_pos hx d (fun t => P ((x : Int) :: t)) (by simpa [List.replicate_succ] using h)
    exact Nat.le_trans this (ns_mem_le (f := fun x => vc N d (fun t => P ((x : Int) :: t))) hx)
theorem ns_ge {f : Nat → Nat} : ∀ {n : Nat}, (∀ i, i < n → 1 ≤ f i) → n ≤ ns f n
  | 0, _ => Nat.le_refl _
  | n + 1, h => by
    have h1 := ns_ge (f := f) (n := n) (fun i hi => h i (by omega))
    have h2 := h n (by omega)
    show n + 1 ≤ ns f n + f n
    omega
theorem vc_ge {N d : Nat} {P : List Int → Bool} (h : ∀ x : Nat, x < N → P (List.replicate (d + 1) (x : Int)) = true) : N ≤ vc N (d + 1) P := by
  unfold vc
  exact ns_ge fun x hx => vc_pos hx d _ (by have := h x hx; simpa [List.replicate_succ] using this)
theorem elt_rep {n i : Nat} {x : Nat} (h : i < n) : elt (List.replicate n (x : Int)) i = x := by
  unfold elt
  rw [List.getD_eq_getElem?_getD, List.getElem?_replicate, if_pos h]
  simp
/-- All constant maps keep sums. -/
theorem cm_ge {os hs l : List Int} {N : Nat} (hl : 1 ≤ l.length) : N ≤ cmG os hs l N l.length [] := by
  rw [cmG_vc]
  obtain ⟨d, hd⟩ : ∃ d, l.length = d + 1 := ⟨l.length - 1, by omega⟩
  rw [hd]
  refine vc_ge fun x _ => ?_
  rw [List.nil_append]
  refine kpB_true.2 fun i j p q hi hj hp hq _ => ?_
  rw [elt_rep hi, elt_rep hj, elt_rep hp, elt_rep hq]

/-- Lists of d zeros and ones. -/
def V2 : Nat → List Int → Prop
  | 0, t => t = []
  | d + 1, t => ∃ (x : Nat) (s : List Int), x < 2 ∧ t = (x : Int) :: s ∧ V2 d s
/-- Place by place, modulo 2. -/
def xa : List Int → List Int → List Int
  | x :: s, y :: t => ((x + y) % 2) :: xa s t
  | _, _ => []
theorem V2_xa : ∀ {d : Nat} {s t : List Int}, V2 d s → V2 d t → V2 d (xa s t)
  | 0, s, t, hs, ht => by subst hs; subst ht; exact rfl
  | d + 1, s, t, ⟨x, s', hx, e1, h1⟩, ⟨y, t', hy, e2, h2⟩ => by
    subst e1; subst e2
    refine ⟨(x + y) % 2, xa s' t', Nat.mod_lt _ (by decide), ?_, V2_xa h1 h2⟩
    show (((x : Int) + y) % 2) :: xa s' t' = _
    congr 1
theorem xa_self : ∀ {d : Nat} {t : List Int}, V2 d t → xa t t = List.replicate d 0
  | 0, t, ht => by subst ht; rfl
  | d + 1, t, ⟨x, s, hx, e, h⟩ => by
    subst e
    show (((x : Int) + x) % 2) :: xa s s = _
    rw [xa_self h, List.replicate_succ]
    congr 1
    omega
theorem xa_zero : ∀ {d : Nat} {t : List Int}, V2 d t → xa t (List.replicate d 0) = t
  | 0, t, ht => by subst ht; rfl
  | d + 1, t, ⟨x, s, hx, e, h⟩ => by
    subst e
    rw [List.replicate_succ]
    show (((x : Int) + 0) % 2) :: xa s (List.replicate d 0) = _
    rw [xa_zero h]
    congr 1
    omega
theorem xa_assoc : ∀ {d : Nat} {r s t : List Int}, V2 d r → V2 d s → V2 d t → xa (xa r s) t = xa r (xa s t)
  | 0, r, s, t, hr, hs, ht => by subst hr; subst hs; subst ht; rfl
  | d + 1, _, _, _, ⟨x, r, hx, e1, h1⟩, ⟨y, s, hy, e2, h2⟩, ⟨z, t, hz, e3, h3⟩ => by
    subst e1; subst e2; subst e3
    show ((((x : Int) + y) % 2 + z) % 2) :: xa (xa r s) t = (((x : Int) + ((y : Int) + z) % 2) % 2) :: xa r (xa s t)
    rw [xa_assoc h1 h2 h3]
    congr 1
    omega
theorem V2_zero : ∀ d, V2 d (List.replicate d 0)
  | 0 => rfl
  | d + 1 => ⟨0, List.replicate d 0, by decide, by rw [List.replicate_succ]; rfl, V2_zero d⟩
theorem vc2 (d : Nat) (P : List Int → Bool) : vc 2 (d + 1) P = vc 2 d (fun t => P ((0 : Int) :: t)) + vc 2 d (fun t => P ((1 : Int) :: t)) := by
  show 0 + vc 2 d (fun t => P (((0 : Nat) : Int) :: t)) + vc 2 d (fun t => P (((1 : Nat) : Int) :: t)) = _
  rw [Nat.zero_add]
  rfl
theorem vc_congr : ∀ {d : Nat} {P Q : List Int → Bool}, (∀ t, V2 d t → P t = Q t) → vc 2 d P = vc 2 d Q
  | 0, P, Q, h => by unfold vc; rw [h [] rfl]
  | d + 1, P, Q, h => by
    rw [vc2, vc2]
    rw [vc_congr (d := d) (P := fun t => P ((0 : Int) :: t)) (Q := fun t => Q ((0 : Int) :: t)) (fun t ht => h _ ⟨0, t, by decide, rfl, ht⟩), vc_congr (d := d) (P := fun t => P ((1 : Int) :: t)) (Q := fun t => Q ((1 : Int) :: t)) (fun t ht => h _ ⟨1, t, by decide, rfl, ht⟩)]
theorem vc_none {d : Nat} {P : List Int → Bool} (h : ∀ t, V2 d t → P t = false) : vc 2 d P = 0 := by
  rw [vc_congr (Q := fun _ => false) h]
  clear h
  induction d with
  | zero => rfl
  | succ d ih => rw [vc2, ih]
theorem vc_shift : ∀ {d : Nat} {v : List Int} (Q : List Int → Bool), V2 d v → vc 2 d (fun t => Q (xa t v)) = vc 2 d Q
  | 0, v, Q, hv => by subst hv; rfl
  | d + 1, _, Q, ⟨y, v, hy, e, hv⟩ => by
    subst e
    rw [vc2, vc2]
    have h0 : ∀ x : Int, vc 2 d (fun t => Q (xa (x :: t) ((y : Int) :: v))) = vc 2 d (fun t => Q (((x + y) % 2) :: t)) := fun x => by
      show vc 2 d (fun t => Q (((x + y) % 2) :: xa t v)) = _
      exact vc_shift (fun t => Q (((x + y) % 2) :: t)) hv
    rw [h0, h0]
    rcases (show y = 0 ∨ y = 1 by omega) with rfl | rfl
    · rfl
    · rw [Nat.add_comm]; rfl
/-- The number of lists in a set that is closed under sums is a power of 2. -/
theorem vc_pow : ∀ (d : Nat) (P : List Int → Bool), P (List.replicate d 0) = true → (∀ s t, V2 d s → V2 d t → P s = true → P t = true → P (xa s t) = true) → ∃ e, e ≤ d ∧ vc 2 d P = 2 ^ e
  | 0, P, h0, _ => ⟨0, Nat.le_refl _, by unfold vc; rw [if_pos (by simpa using h0)]⟩
  | d + 1, P, h0, hc => by
    have hz : P ((0 : Int) :: List.replicate d 0) = true := by rw [List.replicate_succ] at h0; exact h0
    obtain ⟨e, he, h1⟩ := vc_pow d (fun t => P ((0 : Int) :: t)) hz (fun s t hs ht h1 h2 => hc _ _ ⟨0, s, by decide, rfl, hs⟩ ⟨0, t, by decide, rfl, ht⟩ h1 h2)
    rw [vc2, h1]
    by_cases hex : ∃ v, V2 d v ∧ P ((1 : Int) :: v) = true
    · obtain ⟨v, hv, hP⟩ := hex
      refine ⟨e + 1, by omega, ?_⟩
      have h2 : vc 2 d (fun t => P ((1 : Int) :: t)) = vc 2 d (fun t => (fun t => P ((0 : Int) :: t)) (xa t v)) := vc_congr fun t ht => by
        rw [Bool.eq_iff_iff]
        constructor
        · intro h
          exact hc _ _ ⟨1, t, by decide, rfl, ht⟩ ⟨1, v, by decide, rfl, hv⟩ h hP
        · intro h
          have := hc ((0 : Int) :: xa t v) ((1 : Int) :: v) ⟨0, xa t v, by decide, rfl, V2_xa ht hv⟩ ⟨1, v, by decide, rfl, hv⟩ h hP
          have e2 : xa ((0 : Int) :: xa t v) ((1 : Int) :: v) = (1 : Int) :: t := by
            show (((0 : Int) + 1) % 2) :: xa (xa t v) v = _
            rw [xa_assoc ht hv hv, xa_self hv, xa_zero ht]
            rfl
          rw [e2] at this
          exact this
      rw [h2, vc_shift (fun t => P ((0 : Int) :: t)) hv, h1, Nat.pow_succ]
      omega
    · refine ⟨e, by omega, ?_⟩
      rw [vc_none (P := fun t => P ((1 : Int) :: t)) (fun t ht => by
        cases h : P ((1 : Int) :: t) with
        | false => rfl
        | true => exact absurd ⟨t, ht, h⟩ hex)]
      rfl
theorem V2_elt : ∀ {d : Nat} {s : List Int}, V2 d s → ∀ i, elt s i < 2
  | 0, s, h, i => by subst h; simp [elt, List.getD]
  | d + 1, _, ⟨x, s, hx, e, h⟩, 0 => by subst e; simp [elt, List.getD]; omega
  | d + 1, _, ⟨x, s, hx, e, h⟩, i + 1 => by
    subst e
    have := V2_elt h i
    simpa [elt, List.getD] using this
theorem xa_elt : ∀ {d : Nat} {s t : List Int}, V2 d s → V2 d t → ∀ i, i < d → elt (xa s t) i = (elt s i + elt t i) % 2
  | 0, _, _, _, _, i, hi => by omega
  | d + 1, _, _, ⟨x, s, hx, e1, h1⟩, ⟨y, t, hy, e2, h2⟩, 0, _ => by
    subst e1; subst e2
    show elt ((((x : Int) + y) % 2) :: xa s t) 0 = _
    simp only [elt, List.getD, List.getElem?_cons_zero, Option.getD_some, Int.toNat_natCast]
    omega
  | d + 1, _, _, ⟨x, s, hx, e1, h1⟩, ⟨y, t, hy, e2, h2⟩, i + 1, hi => by
    subst e1; subst e2
    have := xa_elt h1 h2 i (by omega)
    show elt ((((x : Int) + y) % 2) :: xa s t) (i + 1) = _
    simpa [elt, List.getD] using this
theorem gadd_two (x y : Nat) : gadd [2] x y = (x + y) % 2 := by
  simp only [gadd]
  show (x % 2 + y % 2) % 2 + 2 * 0 = _
  omega
/-- The maps into the group of two elements. -/
theorem cm_pow {os l : List Int} : ∃ e, e ≤ l.length ∧ cmG os [2] l 2 l.length [] = 2 ^ e := by
  rw [cmG_vc]
  refine vc_pow l.length _ ?_ ?_
  · rw [List.nil_append]
    refine kpB_true.2 fun i j p q hi hj hp hq _ => ?_
    rw [show List.replicate l.length (0 : Int) = List.replicate l.length ((0 : Nat) : Int) from rfl, elt_rep hi, elt_rep hj, elt_rep hp, elt_rep hq]
  · intro s t hs ht h1 h2
    rw [List.nil_append] at h1 h2 ⊢
    refine kpB_true.2 fun i j p q hi hj hp hq e => ?_
    have k1 := kpB_true.1 h1 i j p q hi hj hp hq e
    have k2 := kpB_true.1 h2 i j p q hi hj hp hq e
    rw [gadd_two, gadd_two] at k1 k2 ⊢
    rw [xa_elt hs ht i hi, xa_elt hs ht j hj, xa_elt hs ht p hp, xa_elt hs ht q hq]
    omega
end Go.Proofs.Ytokpgbpdmfibjaa
