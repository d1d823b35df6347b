/-
The search through the sets with a property, plain: what the program's search keeps (best, size, count), what the reference's two searches hand back, and that they agree. No condition.
-/
import Derived.Test.YtokpgbpdmfibjaaPop
namespace Go.Proofs.Ytokpgbpdmfibjaa
open Go.RowKit Go.ChangeShapes

/-- What the program's search keeps. -/
structure FS where
  best : Nat
  size : Int
  count : Int
def FS.hit (s : FS) (a : Nat) (n : Int) : FS := ⟨if s.size < n then a else s.best, if s.size < n then n else s.size, s.count + 1⟩
def fsGo (P : Nat → Bool) (N : Nat) : Nat → Nat → Int → FS → FS
  | 0, _, _, s => s
  | d + 1, a, n, s => fsGo P N d a n (if P (a ||| 2 ^ (N - (d + 1))) = true then fsGo P N d (a ||| 2 ^ (N - (d + 1))) (n + 1) (s.hit (a ||| 2 ^ (N - (d + 1))) (n + 1)) else s)
def better (b y : Nat) : Nat := if popc b < popc y then y else b
def lgGo (P : Nat → Bool) (N : Nat) : Nat → Nat → Nat → Nat
  | 0, _, b => b
  | d + 1, a, b => lgGo P N d a (if P (a ||| 2 ^ (N - (d + 1))) = true then better b (lgGo P N d (a ||| 2 ^ (N - (d + 1))) (a ||| 2 ^ (N - (d + 1)))) else b)
def cnGo (P : Nat → Bool) (N : Nat) : Nat → Nat → Int → Int
  | 0, _, c => c
  | d + 1, a, c => cnGo P N d a (if P (a ||| 2 ^ (N - (d + 1))) = true then c + cnGo P N d (a ||| 2 ^ (N - (d + 1))) 1 else c)
theorem better_assoc (a b c : Nat) : better a (better b c) = better (better a b) c := by
  unfold better
  by_cases h1 : popc a < popc b <;> by_cases h2 : popc b < popc c <;> simp [h1, h2] <;> omega
theorem better_lgGo (P : Nat → Bool) (N : Nat) : ∀ (d a b c : Nat), better b (lgGo P N d a c) = lgGo P N d a (better b c)
  | 0, _, _, _ => rfl
  | d + 1, a, b, c => by
    unfold lgGo
    rw [better_lgGo P N d a b]
    congr 1
    split
    · rw [better_assoc]
    · rfl
theorem add_cnGo (P : Nat → Bool) (N : Nat) : ∀ (d a : Nat) (b c : Int), b + cnGo P N d a c = cnGo P N d a (b + c)
  | 0, _, _, _ => rfl
  | d + 1, a, b, c => by
    unfold cnGo
    rw [add_cnGo P N d a b]
    congr 1
    split
    · rw [Int.add_assoc]
    · rfl
/-- The size is that of the best set. -/
def FS.ok (s : FS) : Prop := s.size = popc s.best
theorem FS.hit_ok {s : FS} (h : s.ok) {a : Nat} {n : Int} (hn : n = popc a) : (s.hit a n).ok ∧ (s.hit a n).best = better s.best a := by
  unfold FS.ok at *
  unfold FS.hit better
  rw [h, hn]
  by_cases e : popc s.best < popc a
  · simp [e]
  · simp [e]
theorem or_bit_lt {a x : Nat} (h : a < 2 ^ x) : a ||| 2 ^ x < 2 ^ (x + 1) :=
  Nat.or_lt_two_pow (Nat.lt_of_lt_of_le h (Nat.pow_le_pow_right (by decide) (by omega))) (Nat.pow_lt_pow_right (by decide) (by omega))
theorem bit_top {a x : Nat} (h : a < 2 ^ x) : a.testBit x = false := Nat.testBit_lt_two_pow h
theorem fsGo_best (P : Nat → Bool) (N : Nat) (hN : N ≤ 64) : ∀ (d a : Nat) (n : Int) (s : FS), d ≤ N → a < 2 ^ (N - d) → n = popc a → s.ok → (fsGo P N d a n s).ok ∧ (fsGo P N d a n s).best = lgGo P N d a s.best
  | 0, _, _, s, _, _, _, h => ⟨h, rfl⟩
  | d + 1, a, n, s, hd, ha, hn, h => by
    unfold fsGo lgGo
    obtain ⟨x, hx⟩ : ∃ x, x = N - (d + 1) := ⟨_, rfl⟩
    have hx1 : N - d = x + 1 := by omega
    rw [← hx] at ha ⊢
    have ha' : a < 2 ^ (N - d) := by rw [hx1]; exact Nat.lt_of_lt_of_le ha (Nat.pow_le_pow_right (by decide) (by omega))
    have hb : a ||| 2 ^ x < 2 ^ (N - d) := by rw [hx1]; exact or_bit_lt ha
    have hp : n + 1 = popc (a ||| 2 ^ x) := by rw [popc_or (bit_top ha) (by omega), hn]; rfl
    by_cases hP : P (a ||| 2 ^ x) = true
    · rw [if_pos hP, if_pos hP]
      obtain ⟨h1, h2⟩ := FS.hit_ok h hp
      obtain ⟨h3, h4⟩ := fsGo_best P N hN d (a ||| 2 ^ x) (n + 1) _ (by omega) hb hp h1
      obtain ⟨h5, h6⟩ := fsGo_best P N hN d a n _ (by omega) ha' hn h3
      refine ⟨h5, ?_⟩
      rw [h6, h4, h2, better_lgGo]
    · rw [if_neg hP, if_neg hP]
      exact fsGo_best P N hN d a n s (by omega) ha' hn h
theorem fsGo_count (P : Nat → Bool) (N : Nat) : ∀ (d a : Nat) (n : Int) (s : FS), (fsGo P N d a n s).count = cnGo P N d a s.count
  | 0, _, _, _ => rfl
  | d + 1, a, n, s => by
    unfold fsGo cnGo
    rw [fsGo_count P N d a n]
    congr 1
    split
    · rw [fsGo_count P N d _ (n + 1), add_cnGo]; rfl
    · rfl
theorem cnGo_bd (P : Nat → Bool) (N : Nat) : ∀ (d a : Nat) (c : Int), c ≤ cnGo P N d a c ∧ cnGo P N d a c + 1 ≤ c + (2 ^ d : Nat)
  | 0, _, c => by simp [cnGo]
  | d + 1, a, c => by
    unfold cnGo
    have hp : 0 < 2 ^ d := Nat.two_pow_pos d
    rw [Nat.pow_succ]
    split
    · obtain ⟨h1, h2⟩ := cnGo_bd P N d (a ||| 2 ^ (N - (d + 1))) 1
      obtain ⟨h3, h4⟩ := cnGo_bd P N d a (c + cnGo P N d (a ||| 2 ^ (N - (d + 1))) 1)
      omega
    · obtain ⟨h3, h4⟩ := cnGo_bd P N d a c
      omega
theorem fsGo_cbd (P : Nat → Bool) (N d a : Nat) (n : Int) (s : FS) : s.count ≤ (fsGo P N d a n s).count ∧ (fsGo P N d a n s).count + 1 ≤ s.count + (2 ^ d : Nat) := by
  rw [fsGo_count]; exact cnGo_bd P N d a s.count
theorem FS.hit_sz (s : FS) (a : Nat) (n m : Int) (h1 : -1 ≤ s.size) (h2 : s.size ≤ m) (h3 : 0 ≤ n) (h4 : n ≤ m) : -1 ≤ (s.hit a n).size ∧ (s.hit a n).size ≤ m := by
  unfold FS.hit; split <;> (simp only; omega)
theorem fsGo_sz (P : Nat → Bool) (N : Nat) : ∀ (d a : Nat) (n m : Int) (s : FS), -1 ≤ s.size → s.size ≤ m → 0 ≤ n → n + d ≤ m → -1 ≤ (fsGo P N d a n s).size ∧ (fsGo P N d a n s).size ≤ m
  | 0, _, _, _, _, h1, h2, _, _ => ⟨h1, h2⟩
  | d + 1, a, n, m, s, h1, h2, h3, h4 => by
    unfold fsGo
    split
    · obtain ⟨g1, g2⟩ := FS.hit_sz s (a ||| 2 ^ (N - (d + 1))) (n + 1) m h1 h2 (by omega) (by omega)
      obtain ⟨g3, g4⟩ := fsGo_sz P N d (a ||| 2 ^ (N - (d + 1))) (n + 1) m _ g1 g2 (by omega) (by omega)
      exact fsGo_sz P N d a n m _ g3 g4 h3 (by omega)
    · exact fsGo_sz P N d a n m _ h1 h2 h3 (by omega)
theorem better_lt {b y m : Nat} (h1 : b < m) (h2 : y < m) : better b y < m := by unfold better; split <;> assumption
theorem lgGo_lt (P : Nat → Bool) (N : Nat) : ∀ (d a b : Nat), d ≤ N → a < 2 ^ (N - d) → b < 2 ^ N → lgGo P N d a b < 2 ^ N
  | 0, _, _, _, _, h => h
  | d + 1, a, b, hd, ha, h => by
    unfold lgGo
    obtain ⟨x, hx⟩ : ∃ x, x = N - (d + 1) := ⟨_, rfl⟩
    have hx1 : N - d = x + 1 := by omega
    rw [← hx] at ha ⊢
    have ha' : a < 2 ^ (N - d) := by rw [hx1]; exact Nat.lt_of_lt_of_le ha (Nat.pow_le_pow_right (by decide) (by omega))
    have hb : a ||| 2 ^ x < 2 ^ (N - d) := by rw [hx1]; exact or_bit_lt ha
    have hbN : a ||| 2 ^ x < 2 ^ N := Nat.lt_of_lt_of_le hb (Nat.pow_le_pow_right (by decide) (by omega))
    apply lgGo_lt P N d a _ (by omega) ha'
    split
    · exact better_lt h (lgGo_lt P N d _ _ (by omega) hb hbN)
    · exact h
end Go.Proofs.Ytokpgbpdmfibjaa
