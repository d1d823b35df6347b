/-
Counting bits, plain: injections, disjoint sets, the searches' results have the property. No condition.
-/
import Derived.Test.YtokpgbpdmfibjaaSrch
import Derived.Test.YtokpgbpdmfibjaaCso
namespace Go.Proofs.Ytokpgbpdmfibjaa
open Go.RowKit Go.ChangeShapes
set_option linter.unusedVariables false

theorem nodup_sub : ∀ (l m : List Int), l.Nodup → (∀ x ∈ l, x ∈ m) → l.length ≤ m.length
  | [], m, _, _ => by simp
  | x :: l, m, h, hs => by
    obtain ⟨h1, h2⟩ := List.nodup_cons.1 h
    have hx := hs x (List.mem_cons_self ..)
    have ih := nodup_sub l (m.erase x) h2 (fun y hy => by
      have hne : y ≠ x := fun e => h1 (e ▸ hy)
      exact (List.mem_erase_of_ne hne).2 (hs y (List.mem_cons_of_mem _ hy)))
    rw [List.length_erase_of_mem hx] at ih
    have := List.length_pos_of_mem hx
    simp only [List.length_cons]
    omega
theorem mems_nodup (a : Nat) : (mems a).Nodup := by
  have h : (mems a).Pairwise (· < ·) := memsTo_lt
  exact h.imp fun h => by omega
theorem popc_inj {a b : Nat} (ha : a < 2 ^ 64) (hb : b < 2 ^ 64) (f : Nat → Nat) (hf : ∀ i, a.testBit i = true → b.testBit (f i) = true) (hi : ∀ i j, a.testBit i = true → a.testBit j = true → f i = f j → i = j) : popc a ≤ popc b := by
  rw [← mems_length, ← mems_length]
  have h := nodup_sub ((mems a).map fun x => (f x.toNat : Int)) (mems b) ?_ ?_
  · simpa using h
  · have hp := mems_nodup a
    rw [List.nodup_iff_pairwise_ne, List.pairwise_map]
    rw [List.nodup_iff_pairwise_ne] at hp
    refine List.Pairwise.imp_of_mem ?_ hp
    intro x y hx hy hne e
    obtain ⟨i, rfl, _, hbi⟩ := memsTo_mem.1 hx
    obtain ⟨j, rfl, _, hbj⟩ := memsTo_mem.1 hy
    simp only [Int.toNat_natCast] at e
    have := hi i j hbi hbj (by omega)
    subst this
    exact hne rfl
  · intro x hx
    rw [List.mem_map] at hx
    obtain ⟨y, hy, rfl⟩ := hx
    obtain ⟨i, rfl, _, hbi⟩ := memsTo_mem.1 hy
    exact (mems_mem (by simpa using hb)).2 ⟨_, rfl, by simpa using hf i hbi⟩
theorem bcTo_disj {a b : Nat} (h : ∀ i, a.testBit i = true → b.testBit i = true → False) : ∀ k, bcTo a k + bcTo b k ≤ k
  | 0 => Nat.le_refl _
  | k + 1 => by
    have := bcTo_disj h k
    have h2 := h k
    unfold bcTo
    cases e1 : a.testBit k <;> cases e2 : b.testBit k <;> simp_all <;> omega
theorem popc_disj {a b n : Nat} (hn : n ≤ 64) (ha : a < 2 ^ n) (hb : b < 2 ^ n) (h : ∀ i, a.testBit i = true → b.testBit i = true → False) : popc a + popc b ≤ n := by
  rw [popc_at ha hn, popc_at hb hn]
  exact bcTo_disj h n

theorem better_or (b y : Nat) : better b y = b ∨ better b y = y := by unfold better; split <;> simp
theorem better_ge (b y : Nat) : popc b ≤ popc (better b y) ∧ popc y ≤ popc (better b y) := by unfold better; split <;> omega
/-- What the search hands back has the property. -/
theorem lgGo_P (P : Nat → Bool) (N : Nat) : ∀ (d a b : Nat), P b = true → P (lgGo P N d a b) = true
  | 0, _, _, h => h
  | d + 1, a, b, h => by
    unfold lgGo
    apply lgGo_P P N d a
    split
    · rename_i h1
      rcases better_or b (lgGo P N d (a ||| 2 ^ (N - (d + 1))) (a ||| 2 ^ (N - (d + 1)))) with e | e <;> rw [e]
      · exact h
      · exact lgGo_P P N d _ _ h1
    · exact h
/-- And is no smaller than what it began with. -/
theorem lgGo_ge (P : Nat → Bool) (N : Nat) : ∀ (d a b : Nat), popc b ≤ popc (lgGo P N d a b)
  | 0, _, _ => Nat.le_refl _
  | d + 1, a, b => by
    unfold lgGo
    refine Nat.le_trans ?_ (lgGo_ge P N d a _)
    split
    · exact (better_ge _ _).1
    · exact Nat.le_refl _
/-- Nor than each single element with the property. -/
theorem lgGo_one (P : Nat → Bool) (N : Nat) : ∀ (d a b x : Nat), x < N → N - d ≤ x → d ≤ N → P (a ||| 2 ^ x) = true → popc (a ||| 2 ^ x) ≤ popc (lgGo P N d a b)
  | 0, _, _, x, h1, h2, _, _ => by omega
  | d + 1, a, b, x, h1, h2, hd, h => by
    unfold lgGo
    by_cases e : x = N - (d + 1)
    · subst e
      rw [if_pos h]
      exact Nat.le_trans (Nat.le_trans (lgGo_ge P N d _ _) (better_ge _ _).2) (lgGo_ge P N d a _)
    · exact lgGo_one P N d a _ x h1 (by omega) (by omega) h
theorem lt64 {a n : Nat} (hn : n ≤ 64) (h : a < 2 ^ n) : a < 18446744073709551616 := by
  have := Nat.pow_le_pow_right (n := 2) (by decide) hn
  have e : (2 : Nat) ^ 64 = 18446744073709551616 := by decide
  omega
def nL (f : Int → Nat) (l : List Int) : Nat := (l.map f).sum
theorem nL_ns (f : Int → Nat → Nat) (l : List Int) : ∀ k, ns (fun t => nL (fun x => f x t) l) k = nL (fun x => ns (f x) k) l
  | 0 => by
    unfold nL
    induction l with
    | nil => rfl
    | cons x l ih => simpa [ns] using ih
  | k + 1 => by
    have : ns (fun t => nL (fun x => f x t) l) (k + 1) = ns (fun t => nL (fun x => f x t) l) k + nL (fun x => f x k) l := rfl
    rw [this, nL_ns f l k]
    unfold nL
    clear this
    induction l with
    | nil => rfl
    | cons x l ih =>
      simp only [List.map_cons, List.sum_cons]
      have e : ns (f x) (k + 1) = ns (f x) k + f x k := rfl
      omega
theorem nL_const {f : Int → Nat} {c : Nat} : ∀ {l : List Int}, (∀ x ∈ l, f x = c) → nL f l = l.length * c
  | [], _ => by simp [nL]
  | x :: l, h => by
    have ih := nL_const (l := l) (fun y hy => h y (List.mem_cons_of_mem _ hy))
    unfold nL at *
    rw [List.map_cons, List.sum_cons, ih, h x (List.mem_cons_self ..), List.length_cons, Nat.add_mul]
    omega
end Go.Proofs.Ytokpgbpdmfibjaa
