/-
Contracts of CauchyProof, of the program and of the reference: the coefficients that they tell do not vanish. No condition.
-/
import Derived.Test.YtbidkjhgodkamaaCoef
namespace Go.Proofs.Ytbidkjhgodkamaa
open Go.RowKit Go.ChangeShapes

/-- A row of the triangle out of the row ahead of it. -/
def nxt (p : Int) : List Int → List Int
  | x :: y :: t => (y + x) % p :: nxt p (y :: t)
  | [x] => [(0 + x) % p]
  | [] => []
def rowsT (p : Int) : Nat → List Int
  | 0 => [1 % p]
  | n + 1 => 1 % p :: nxt p (rowsT p n)

theorem nxt_map (p : Int) (f : Nat → Int) : ∀ m s, f (s + m + 1) = 0 → nxt p ((List.range' s (m + 1)).map f) = (List.range' s (m + 1)).map fun j => (f (j + 1) + f j) % p
  | 0, s, h => by
    simp only [List.range'_succ, List.range'_zero, List.map_cons, List.map_nil, nxt]
    rw [show f (s + 1) = 0 by simpa using h]
  | m + 1, s, h => by
    have ih := nxt_map p f m (s + 1) (by rw [show s + 1 + m + 1 = s + (m + 1) + 1 by omega]; exact h)
    rw [List.range'_succ, List.map_cons, List.map_cons, ← ih, List.range'_succ, List.map_cons]
    rfl
theorem rowsT_eq (p : Int) : ∀ n, rowsT p n = (List.range' 0 (n + 1)).map (pas p n)
  | 0 => by simp [rowsT, pas]
  | n + 1 => by
    have h : pas p n (0 + n + 1) = 0 := pas_zero p n _ (by omega)
    unfold rowsT
    have e0 : List.range' 0 (n + 1 + 1) = 0 :: List.range' (0 + 1) (n + 1) := rfl
    rw [rowsT_eq p n, nxt_map p (pas p n) n 0 h, e0, List.map_cons]
    congr 1
    have e1 : List.range' (0 + 1) (n + 1) = (List.range' 0 (n + 1)).map (1 + ·) := (List.map_add_range' 0 (n + 1) 1).symm
    rw [e1, List.map_map]
    apply List.map_congr_left
    intro j _
    show _ = pas p (n + 1) (1 + j)
    rw [Nat.add_comm 1 j]
    rfl
theorem pas_pos {p : Int} {n k : Nat} (hp : prmB p = true) (hn : (n : Int) < p) (hk : k ≤ n) : 0 < pas p n k := by
  have key : ∀ p ∈ ([2, 3, 5, 7, 11, 13, 17, 19, 23] : List Nat), ∀ n, n < p → (rowsT (p : Int) n).all (fun x => decide (0 < x)) = true := by decide +kernel
  have hp' : p ∈ ([2, 3, 5, 7, 11, 13, 17, 19, 23] : List Int) := by simpa [prmB] using hp
  have h2 : ∃ q : Nat, q ∈ ([2, 3, 5, 7, 11, 13, 17, 19, 23] : List Nat) ∧ p = q := by
    simp only [List.mem_cons, List.not_mem_nil, or_false] at hp'
    rcases hp' with h | h | h | h | h | h | h | h | h <;> subst h
    · exact ⟨2, by decide, rfl⟩
    · exact ⟨3, by decide, rfl⟩
    · exact ⟨5, by decide, rfl⟩
    · exact ⟨7, by decide, rfl⟩
    · exact ⟨11, by decide, rfl⟩
    · exact ⟨13, by decide, rfl⟩
    · exact ⟨17, by decide, rfl⟩
    · exact ⟨19, by decide, rfl⟩
    · exact ⟨23, by decide, rfl⟩
  obtain ⟨q, hq, rfl⟩ := h2
  have h3 := key q hq n (by omega)
  rw [rowsT_eq, List.all_eq_true] at h3
  have h4 := h3 (pas q n k) (List.mem_map.2 ⟨k, by rw [List.mem_range'_1]; omega, rfl⟩)
  simpa using h4

/-- What CauchyProof returns. -/
def cpN (p a b : Int) : Int := pas p (a + b - 2).toNat (a - 1).toNat
theorem cp_ways (p a b : Int) : prmB p = false ∨ (prmB p = true ∧ inB a 1 p = false) ∨ (prmB p = true ∧ inB a 1 p = true ∧ inB b 1 p = false) ∨ (prmB p = true ∧ inB a 1 p = true ∧ inB b 1 p = true) := by
  cases prmB p <;> cases inB a 1 p <;> cases inB b 1 p <;> simp
def cpB (p a b : Int) : Bool := prmB p && inB a 1 p && inB b 1 p && decide (a + b - 2 < p)
def cpV (p a b : Int) : Int := if cpB p a b = true then cpN p a b else 0
theorem cp_cov {p a b : Int} (h : cpB p a b = true) : cov (a + b - 2) (a - 1) (b - 1) p = cpN p a b ∧ 0 < cpN p a b := by
  simp only [cpB, Bool.and_eq_true, decide_eq_true_eq] at h
  obtain ⟨⟨⟨h0, h1⟩, h2⟩, h3⟩ := h
  obtain ⟨g1, g2⟩ := prm_bd h0
  obtain ⟨g3, g4⟩ := inB_true.1 h1
  obtain ⟨g5, g6⟩ := inB_true.1 h2
  refine ⟨?_, pas_pos h0 (by omega) (by omega)⟩
  unfold cov cpN
  rw [if_pos ⟨inB_true.2 (by omega), inB_true.2 (by omega), inB_true.2 (by omega), h0⟩, if_pos (by omega)]

set_option maxHeartbeats 1600000 in
theorem cp_impl (p a b : Int) (w : World) :
    Calls Try.prog 131 #[.int .i64 p, .int .i64 a, .int .i64 b] w fun e w' => e = .returned (.tuple #[.int .i64 (cpV p a b), .bool (cpB p a b)]) ∧ Below w.heap.size w w' := by
  rcases cp_ways p a b with h0 | ⟨h0, h1⟩ | ⟨h0, h1, h2⟩ | ⟨h0, h1, h2⟩
  · have e : cpB p a b = false := by simp [cpB, h0]
    have e2 : cpV p a b = 0 := by simp [cpV, e]
    rw [e2, e]; clear e e2
    go_enter Try.func131, Try.ntmps131
    go_wp2_with fail
    refine (isPrime_is p false h0 _).mono ?_; rintro e w' ⟨rfl, rfl⟩
    go_wp2_with fail
    go_ret2
    exact ⟨rfl, Below.refl _ _⟩
  · have e : cpB p a b = false := by simp [cpB, h1]
    have e2 : cpV p a b = 0 := by simp [cpV, e]
    rw [e2, e]; clear e e2
    go_enter Try.func131, Try.ntmps131
    go_wp2_with fail
    refine (isPrime_is p true h0 _).mono ?_; rintro e w' ⟨rfl, rfl⟩
    go_wp2_with fail
    refine (within_is a 1 p false h1 _).mono ?_; rintro e w' ⟨rfl, rfl⟩
    go_wp2_with fail
    go_ret2
    exact ⟨rfl, Below.refl _ _⟩
  · have e : cpB p a b = false := by simp [cpB, h2]
    have e2 : cpV p a b = 0 := by simp [cpV, e]
    rw [e2, e]; clear e e2
    go_enter Try.func131, Try.ntmps131
    go_wp2_with fail
    refine (isPrime_is p true h0 _).mono ?_; rintro e w' ⟨rfl, rfl⟩
    go_wp2_with fail
    refine (within_is a 1 p true h1 _).mono ?_; rintro e w' ⟨rfl, rfl⟩
    go_wp2_with fail
    refine (within_is b 1 p false h2 _).mono ?_; rintro e w' ⟨rfl, rfl⟩
    go_wp2_with fail
    go_ret2
    exact ⟨rfl, Below.refl _ _⟩
  · obtain ⟨gp1, gp2⟩ := prm_bd h0
    obtain ⟨g3, g4⟩ := inB_true.1 h1
    obtain ⟨g5, g6⟩ := inB_true.1 h2
    have H0 := Lib.hid h0
    have H1 := Lib.hid h1
    have H2 := Lib.hid h2
    by_cases hlt : a + b - 2 < p
    · have e : cpB p a b = true := by simp [cpB, h0, h1, h2, hlt]
      have e2 : cpV p a b = cpN p a b := by simp [cpV, e]
      obtain ⟨c1, c2⟩ := cp_cov e
      have C := Lib.hid (cov_impl (a + b - 2) (a - 1) (b - 1) p)
      rw [c1] at C
      obtain ⟨r, hr⟩ : ∃ r, r = cpN p a b := ⟨_, rfl⟩
      rw [e2, e]
      rw [← hr] at C c2 ⊢
      clear hr e e2 c1 h0 h1 h2
      go_enter Try.func131, Try.ntmps131
      go_wp2_with fail
      refine (isPrime_is p true H0.out _).mono ?_; rintro e w' ⟨rfl, rfl⟩
      go_wp2_with fail
      refine (within_is a 1 p true H1.out _).mono ?_; rintro e w' ⟨rfl, rfl⟩
      go_wp2_with fail
      refine (within_is b 1 p true H2.out _).mono ?_; rintro e w' ⟨rfl, rfl⟩
      go_wp2_with fail
      refine (C.out _).mono ?_; rintro e w1 ⟨rfl, b1⟩
      go_wp2_with fail
      go_ret2
      exact ⟨rfl, b1⟩
    · have e : cpB p a b = false := by simp [cpB, hlt]
      have e2 : cpV p a b = 0 := by simp [cpV, e]
      rw [e2, e]
      clear e e2 h0 h1 h2
      go_enter Try.func131, Try.ntmps131
      go_wp2_with fail
      refine (isPrime_is p true H0.out _).mono ?_; rintro e w' ⟨rfl, rfl⟩
      go_wp2_with fail
      refine (within_is a 1 p true H1.out _).mono ?_; rintro e w' ⟨rfl, rfl⟩
      go_wp2_with fail
      refine (within_is b 1 p true H2.out _).mono ?_; rintro e w' ⟨rfl, rfl⟩
      go_wp2_with fail
      go_ret2
      exact ⟨rfl, Below.refl _ _⟩

set_option maxHeartbeats 1600000 in
theorem cp_spec (p a b : Int) (w : World) :
    Calls Try.prog 138 #[.int .i64 p, .int .i64 a, .int .i64 b] w fun e w' => e = .returned (.tuple #[.int .i64 (cpV p a b), .bool (cpB p a b)]) ∧ Below w.heap.size w w' := by
  rcases cp_ways p a b with h0 | ⟨h0, h1⟩ | ⟨h0, h1, h2⟩ | ⟨h0, h1, h2⟩
  · have e : cpB p a b = false := by simp [cpB, h0]
    have e2 : cpV p a b = 0 := by simp [cpV, e]
    rw [e2, e]; clear e e2
    go_enter Try.func138, Try.ntmps138
    go_wp2_with fail
    refine (l26Prime_is p false h0 _).mono ?_; rintro e w' ⟨rfl, rfl⟩
    go_wp2_with fail
    go_ret2
    exact ⟨rfl, Below.refl _ _⟩
  · have e : cpB p a b = false := by simp [cpB, h1]
    have e2 : cpV p a b = 0 := by simp [cpV, e]
    rw [e2, e]; clear e e2
    go_enter Try.func138, Try.ntmps138
    go_wp2_with fail
    refine (l26Prime_is p true h0 _).mono ?_; rintro e w' ⟨rfl, rfl⟩
    go_wp2_with fail
    refine (l1In_is a 1 p false h1 _).mono ?_; rintro e w' ⟨rfl, rfl⟩
    go_wp2_with fail
    go_ret2
    exact ⟨rfl, Below.refl _ _⟩
  · have e : cpB p a b = false := by simp [cpB, h2]
    have e2 : cpV p a b = 0 := by simp [cpV, e]
    rw [e2, e]; clear e e2
    go_enter Try.func138, Try.ntmps138
    go_wp2_with fail
    refine (l26Prime_is p true h0 _).mono ?_; rintro e w' ⟨rfl, rfl⟩
    go_wp2_with fail
    refine (l1In_is a 1 p true h1 _).mono ?_; rintro e w' ⟨rfl, rfl⟩
    go_wp2_with fail
    refine (l1In_is b 1 p false h2 _).mono ?_; rintro e w' ⟨rfl, rfl⟩
    go_wp2_with fail
    go_ret2
    exact ⟨rfl, Below.refl _ _⟩
  · obtain ⟨gp1, gp2⟩ := prm_bd h0
    obtain ⟨g3, g4⟩ := inB_true.1 h1
    obtain ⟨g5, g6⟩ := inB_true.1 h2
    have H0 := Lib.hid h0
    have H1 := Lib.hid h1
    have H2 := Lib.hid h2
    by_cases hlt : a + b - 2 < p
    · have e : cpB p a b = true := by simp [cpB, h0, h1, h2, hlt]
      have e2 : cpV p a b = cpN p a b := by simp [cpV, e]
      obtain ⟨c1, c2⟩ := cp_cov e
      have C := Lib.hid (cov_spec (a + b - 2) (a - 1) (b - 1) p)
      rw [c1] at C
      obtain ⟨r, hr⟩ : ∃ r, r = cpN p a b := ⟨_, rfl⟩
      rw [e2, e]
      rw [← hr] at C c2 ⊢
      clear hr e e2 c1 h0 h1 h2
      go_enter Try.func138, Try.ntmps138
      go_wp2_with fail
      refine (l26Prime_is p true H0.out _).mono ?_; rintro e w' ⟨rfl, rfl⟩
      go_wp2_with fail
      refine (l1In_is a 1 p true H1.out _).mono ?_; rintro e w' ⟨rfl, rfl⟩
      go_wp2_with fail
      refine (l1In_is b 1 p true H2.out _).mono ?_; rintro e w' ⟨rfl, rfl⟩
      go_wp2_with fail
      refine (C.out _).mono ?_; rintro e w1 ⟨rfl, b1⟩
      go_wp2_with fail
      go_ret2
      exact ⟨rfl, b1⟩
    · have e : cpB p a b = false := by simp [cpB, hlt]
      have e2 : cpV p a b = 0 := by simp [cpV, e]
      rw [e2, e]
      clear e e2 h0 h1 h2
      go_enter Try.func138, Try.ntmps138
      go_wp2_with fail
      refine (l26Prime_is p true H0.out _).mono ?_; rintro e w' ⟨rfl, rfl⟩
      go_wp2_with fail
      refine (l1In_is a 1 p true H1.out _).mono ?_; rintro e w' ⟨rfl, rfl⟩
      go_wp2_with fail
      refine (l1In_is b 1 p true H2.out _).mono ?_; rintro e w' ⟨rfl, rfl⟩
      go_wp2_with fail
      go_ret2
      exact ⟨rfl, Below.refl _ _⟩

end Go.Proofs.Ytbidkjhgodkamaa
