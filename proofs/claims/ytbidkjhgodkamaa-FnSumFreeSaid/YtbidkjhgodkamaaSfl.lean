/-
Sum-free sets, plain: at most half of a group; the parts by multiples are sum-free and one of them is at least as large as the mean. No condition.
-/
import Derived.Test.YtbidkjhgodkamaaCnp
import Derived.Test.YtbidkjhgodkamaaSfr
import Derived.Test.YtbidkjhgodkamaaSfp
import Derived.Test.YtbidkjhgodkamaaGco
namespace Go.Proofs.Ytbidkjhgodkamaa
open Go.RowKit Go.ChangeShapes
set_option linter.unusedVariables false

theorem lt64 {a n : Nat} (hn : n ≤ 64) (h : a < 2 ^ n) : a < 18446744073709551616 := by
  have := Nat.pow_le_pow_right (n := 2) (by decide) hn
  have e : (2 : Nat) ^ 64 = 18446744073709551616 := by decide
  omega
theorem free_half {os : List Int} (hg : grpB os = true) {a : Nat} (ha : a < 2 ^ gn os) (hf : freeB os a = true) : 2 * popc a ≤ gn os := by
  obtain ⟨g2, g3, g4, g5, g6⟩ := grp_gn hg
  have hl := lt64 (by omega : gn os ≤ 64) ha
  have hff := (free_iff hl).1 hf
  by_cases h0 : ∃ x, a.testBit x = true
  · obtain ⟨x, hx⟩ := h0
    have hsl : sumS os a a < 2 ^ gn os := by
      apply Nat.lt_pow_two_of_testBit
      intro i hi
      cases hb : (sumS os a a).testBit i with
      | false => rfl
      | true =>
        obtain ⟨p, q, _, _, e⟩ := (sumS_iff hl hl i).1 hb
        have := gadd_lt' g2 p q
        omega
    have h1 : popc a ≤ popc (sumS os a a) := by
      refine popc_inj (by simpa using hl) (by simpa using lt64 (by omega : gn os ≤ 64) hsl) (gadd os x) (fun i hi => (sumS_iff hl hl _).2 ⟨x, i, hx, hi, rfl⟩) (fun i j hi hj e => ?_)
      exact gadd_cancel g2 (bit_lt ha hi) (bit_lt ha hj) e
    have h2 := popc_disj (n := gn os) (by omega) ha hsl (fun i h1 h2 => by
      obtain ⟨p, q, hp, hq, e⟩ := (sumS_iff hl hl i).1 h2
      exact hff p q hp hq (by rw [e]; exact h1))
    omega
  · have : a = 0 := by
      apply Nat.eq_of_testBit_eq
      intro i
      cases hb : a.testBit i with
      | false => simp
      | true => exact absurd ⟨i, hb⟩ h0
    subst this
    rw [popc_zero]; omega
theorem free_zero (os : List Int) : freeB os 0 = true := by
  unfold freeB
  simp
/-- What a part of a list consists of. -/
theorem prL_bit {m n t : Nat} : ∀ (l : List Int) (s i : Nat), (∀ x ∈ l, 0 ≤ x) → ((l.foldl (fun (s : Nat) (y : Int) => if m.testBit (y.toNat * t % n) = true then s ||| 2 ^ y.toNat else s) s).testBit i = true ↔ s.testBit i = true ∨ ((i : Int) ∈ l ∧ m.testBit (i * t % n) = true))
  | [], s, i, _ => by simp
  | y :: l, s, i, h => by
    have hy := h y (List.mem_cons_self ..)
    have ih := fun s => prL_bit (m := m) (n := n) (t := t) l s i (fun x hx => h x (List.mem_cons_of_mem _ hx))
    rw [List.foldl_cons, ih, List.mem_cons]
    by_cases hm : m.testBit (y.toNat * t % n) = true
    · rw [if_pos hm, Nat.testBit_or, Nat.testBit_two_pow, Bool.or_eq_true, decide_eq_true_eq]
      constructor
      · rintro ((h1 | h1) | ⟨h1, h2⟩)
        · exact .inl h1
        · subst h1; exact .inr ⟨.inl (by omega), hm⟩
        · exact .inr ⟨.inr h1, h2⟩
      · rintro (h1 | ⟨h1 | h1, h2⟩)
        · exact .inl (.inl h1)
        · exact .inl (.inr (by omega))
        · exact .inr ⟨h1, h2⟩
    · rw [if_neg hm]
      constructor
      · rintro (h1 | ⟨h1, h2⟩)
        · exact .inl h1
        · exact .inr ⟨.inr h1, h2⟩
      · rintro (h1 | ⟨h1 | h1, h2⟩)
        · exact .inl h1
        · exfalso; apply hm; rw [show y.toNat = i by omega]; exact h2
        · exact .inr ⟨h1, h2⟩
theorem prL_iff {m n t a : Nat} (ha : a < 18446744073709551616) (i : Nat) : (prL m n t (mems a)).testBit i = true ↔ a.testBit i = true ∧ m.testBit (i * t % n) = true := by
  unfold prL
  rw [prL_bit (mems a) 0 i (fun x hx => (mems_bd hx).1)]
  have : (i : Int) ∈ mems a ↔ a.testBit i = true := by
    rw [mems_mem ha]
    constructor
    · rintro ⟨j, hj, h⟩
      obtain rfl : i = j := by omega
      exact h
    · intro h; exact ⟨i, rfl, h⟩
  rw [this]
  simp
theorem bpT_or {m n : Nat} (l : List Int) : ∀ k, bpT m n l k = 0 ∨ ∃ t, 1 ≤ t ∧ t ≤ k ∧ bpT m n l k = prL m n t l
  | 0 => .inl rfl
  | k + 1 => by
    unfold bpT
    rcases better_or (bpT m n l k) (prL m n (k + 1) l) with e | e <;> rw [e]
    · rcases bpT_or (m := m) (n := n) l k with h | ⟨t, h1, h2, h3⟩
      · exact .inl h
      · exact .inr ⟨t, h1, by omega, h3⟩
    · exact .inr ⟨k + 1, by omega, by omega, rfl⟩
theorem bpT_ge {m n : Nat} (l : List Int) : ∀ k t, 1 ≤ t → t ≤ k → popc (prL m n t l) ≤ popc (bpT m n l k)
  | 0, t, h1, h2 => by omega
  | k + 1, t, h1, h2 => by
    unfold bpT
    by_cases e : t = k + 1
    · subst e; exact (better_ge _ _).2
    · exact Nat.le_trans (bpT_ge l k t h1 (by omega)) (better_ge _ _).1
/-- Sums of elements whose multiples lie in the middle third have none there. -/
theorem mid_free {n u v : Nat} (hn : 0 < n) (hu : (mtTo n n).testBit u = true) (hv : (mtTo n n).testBit v = true) : (mtTo n n).testBit ((u + v) % n) = false := by
  rw [mtTo_bit] at hu hv ⊢
  simp only [Bool.and_eq_true, decide_eq_true_eq] at hu hv
  rw [Bool.and_eq_false_iff]
  right
  rw [decide_eq_false_iff_not]
  by_cases h : u + v < n
  · rw [Nat.mod_eq_of_lt h]; omega
  · have : (u + v) % n = u + v - n := by rw [Nat.mod_eq_sub_mod (by omega), Nat.mod_eq_of_lt (by omega)]
    omega
theorem gadd_one' {o : Int} {n : Nat} (ho : o = (n : Int)) (x y : Nat) : gadd [o] x y = (x + y) % n := by
  subst ho
  simp [gadd]
theorem mul_mod_add {n x y t : Nat} : (x + y) % n * t % n = (x * t % n + y * t % n) % n := by
  rw [Nat.mod_mul_mod, Nat.add_mul, ← Nat.add_mod]
theorem part_free {os : List Int} (hg : grpB os = true) (h1 : os.length = 1) {c : Nat} (hc : c < 2 ^ gn os) (t : Nat) : freeB os (prL (mtTo (gn os) (gn os)) (gn os) t (mems c)) = true := by
  obtain ⟨g2, g3, g4, g5, g6⟩ := grp_gn hg
  have hcl := lt64 (by omega : gn os ≤ 64) hc
  have hpl : prL (mtTo (gn os) (gn os)) (gn os) t (mems c) < 18446744073709551616 := by
    have := prL_lt (m := mtTo (gn os) (gn os)) (n := gn os) (t := t) (l := mems c) (fun x hx => by have := (mems_lt (os := os) hc hx).2.1; omega)
    omega
  rw [free_iff hpl]
  intro p q hp hq hr
  rw [prL_iff hcl] at hp hq hr
  obtain ⟨o, ho, ho2⟩ := gn_one hg h1
  rw [show gadd os p q = (p + q) % gn os by rw [ho]; rw [gadd_one' (n := gn os) ho2]; rw [← ho], mul_mod_add] at hr
  have := mid_free (by omega) hp.2 hq.2
  rw [this] at hr
  cases hr.2
theorem mt_free {os : List Int} (hg : grpB os = true) (h1 : os.length = 1) : freeB os (mtTo (gn os) (gn os)) = true := by
  obtain ⟨g2, g3, g4, g5, g6⟩ := grp_gn hg
  have hpl : mtTo (gn os) (gn os) < 18446744073709551616 := by have := mt24 (n := gn os) (k := gn os) g4; omega
  rw [free_iff hpl]
  intro p q hp hq hr
  obtain ⟨o, ho, ho2⟩ := gn_one hg h1
  rw [show gadd os p q = (p + q) % gn os by rw [ho]; rw [gadd_one' (n := gn os) ho2]; rw [← ho]] at hr
  have := mid_free (by omega) hp hq
  rw [this] at hr
  cases hr
/-- Sums over lists of numbers. -/
def nL (f : Int → Nat) (l : List Int) : Nat := (l.map f).sum
theorem nL_ns (f : Int → Nat → Nat) (l : List Int) : ∀ k, ns (fun t => nL (fun x => f x t) l) k = nL (fun x => ns (f x) k) l
  | 0 => by
    unfold nL
    induction l with
    | nil => rfl
    | cons x l ih => simpa [ns] using ih
  | k + 1 => by
    have : ns (fun t => nL (fun x => f x t) l) (k + 1) = ns (fun t => nL (fun x => f x t) l) k + nL (fun x => f x k) l := rfl
    rw [this, nL_ns f l k]
    unfold nL
    clear this
    induction l with
    | nil => rfl
    | cons x l ih =>
      simp only [List.map_cons, List.sum_cons]
      have e : ns (f x) (k + 1) = ns (f x) k + f x k := rfl
      omega
theorem nL_const {f : Int → Nat} {c : Nat} : ∀ {l : List Int}, (∀ x ∈ l, f x = c) → nL f l = l.length * c
  | [], _ => by simp [nL]
  | x :: l, h => by
    have ih := nL_const (l := l) (fun y hy => h y (List.mem_cons_of_mem _ hy))
    unfold nL at *
    rw [List.map_cons, List.sum_cons, ih, h x (List.mem_cons_self ..), List.length_cons, Nat.add_mul]
    omega
theorem prL_popc {m n t : Nat} : ∀ (k : Nat) {a : Nat}, k ≤ 64 → popc (prL m n t (memsTo a k)) = nL (fun x => nat1 (m.testBit (x.toNat * t % n))) (memsTo a k)
  | 0, a, _ => by simp [prL, memsTo, nL, popc_zero]
  | k + 1, a, hk => by
    have ih := prL_popc (m := m) (n := n) (t := t) k (a := a) (by omega)
    unfold memsTo
    split
    · unfold prL at ih ⊢
      rw [List.foldl_append]
      unfold nL at ih ⊢
      rw [List.map_append, List.sum_append, ← ih]
      simp only [List.foldl_cons, List.foldl_nil, Int.toNat_natCast, List.map_cons, List.map_nil, List.sum_cons, List.sum_nil]
      have hb : ((memsTo a k).foldl (fun (s : Nat) (y : Int) => if m.testBit (y.toNat * t % n) = true then s ||| 2 ^ y.toNat else s) 0).testBit k = false := by
        cases hh : ((memsTo a k).foldl (fun (s : Nat) (y : Int) => if m.testBit (y.toNat * t % n) = true then s ||| 2 ^ y.toNat else s) 0).testBit k with
        | false => rfl
        | true =>
          rw [prL_bit (memsTo a k) 0 k (fun x hx => by obtain ⟨i, rfl, _⟩ := memsTo_mem.1 hx; omega)] at hh
          rcases hh with hh | ⟨hh, _⟩
          · simp at hh
          · obtain ⟨i, hi, hlt, _⟩ := memsTo_mem.1 hh
            omega
      unfold nat1
      split
      · rw [popc_or hb (by omega)]; omega
      · rfl
    · exact ih
/-- The parts of a set, all multipliers together. -/
theorem parts_sum {m n a k : Nat} {c : Nat} (h : ∀ x ∈ mems a, ns (fun t => nat1 (m.testBit (x.toNat * (t + 1) % n))) k = c) : popc a * c ≤ k * popc (bpT m n (mems a) k) := by
  have h1 : ns (fun t => popc (prL m n (t + 1) (mems a))) k = popc a * c := by
    have e : (fun t => popc (prL m n (t + 1) (mems a))) = fun t => nL (fun x => (fun (x : Int) t => nat1 (m.testBit (x.toNat * (t + 1) % n))) x t) (mems a) := by
      funext t
      exact prL_popc 64 (Nat.le_refl _)
    rw [e, nL_ns, nL_const h, mems_length]
  rw [← h1]
  have : ∀ j, j ≤ k → ns (fun t => popc (prL m n (t + 1) (mems a))) j ≤ j * popc (bpT m n (mems a) k) := by
    intro j
    induction j with
    | zero => intro _; simp [ns]
    | succ j ih =>
      intro hj
      have := ih (by omega)
      have h2 := bpT_ge (m := m) (n := n) (mems a) k (j + 1) (by omega) hj
      have e : ns (fun t => popc (prL m n (t + 1) (mems a))) (j + 1) = ns (fun t => popc (prL m n (t + 1) (mems a))) j + popc (prL m n (j + 1) (mems a)) := rfl
      rw [e, Nat.add_mul, Nat.one_mul]
      omega
  exact this k (Nat.le_refl _)
theorem mid_count {n x : Nat} (hp : prmB (n : Int) = true) (h0 : 0 < x) (hx : x < n) : ns (fun t => nat1 ((mtTo n n).testBit (x * (t + 1) % n))) (n - 1) = popc (mtTo n n) := by
  have key : ∀ n : Nat, n < 24 → prmB (n : Int) = true → ∀ x : Nat, x < n → 0 < x → ns (fun t => nat1 ((mtTo n n).testBit (x * (t + 1) % n))) (n - 1) = popc (mtTo n n) := by decide +kernel
  exact key n (by have := prm_bd hp; omega) hp x hx h0
/-- One part is at least as large as the mean. -/
theorem part_mean {n c : Nat} (hp : prmB (n : Int) = true) (hc : c < 2 ^ n) (h0 : c.testBit 0 = false) : popc c * popc (mtTo n n) ≤ popc (bpT (mtTo n n) n (mems c) (n - 1)) * (n - 1) := by
  rw [Nat.mul_comm (popc (bpT _ _ _ _))]
  have hb := prm_bd hp
  refine parts_sum fun x hx => ?_
  obtain ⟨i, rfl, hi, hbi⟩ := memsTo_mem.1 hx
  simp only [Int.toNat_natCast]
  refine mid_count hp ?_ ?_
  · apply Nat.pos_of_ne_zero
    intro e; subst e; rw [h0] at hbi; cases hbi
  · exact bit_lt hc hbi
end Go.Proofs.Ytbidkjhgodkamaa
