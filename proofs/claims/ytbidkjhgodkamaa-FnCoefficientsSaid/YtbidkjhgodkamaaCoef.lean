/-
Contracts of CoefficientOf, DistinctCoefficient and CauchyProof, of the program and of the reference. No condition.
-/
import Derived.Test.YtbidkjhgodkamaaBin
namespace Go.Proofs.Ytbidkjhgodkamaa
open Go.RowKit Go.ChangeShapes

/-- What CoefficientOf returns. -/
def cov (n i k p : Int) : Int := if inB n 0 60 = true ∧ inB i 0 60 = true ∧ inB k 0 60 = true ∧ prmB p = true then (if i + k = n then pas p n.toNat i.toNat else 0) else -1

theorem co_ways (n i k p : Int) : inB n 0 60 = false ∨ (inB n 0 60 = true ∧ inB i 0 60 = false) ∨ (inB n 0 60 = true ∧ inB i 0 60 = true ∧ inB k 0 60 = false) ∨ (inB n 0 60 = true ∧ inB i 0 60 = true ∧ inB k 0 60 = true ∧ prmB p = false) ∨ (inB n 0 60 = true ∧ inB i 0 60 = true ∧ inB k 0 60 = true ∧ prmB p = true) := by
  cases inB n 0 60 <;> cases inB i 0 60 <;> cases inB k 0 60 <;> cases prmB p <;> simp

set_option maxHeartbeats 1600000 in
theorem cov_impl (n i k p : Int) (w : World) :
    Calls Try.prog 141 #[.int .i64 n, .int .i64 i, .int .i64 k, .int .i64 p] w fun e w' => e = .returned (.int .i64 (cov n i k p)) ∧ Below w.heap.size w w' := by
  rcases co_ways n i k p with h0 | ⟨h0, h1⟩ | ⟨h0, h1, h2⟩ | ⟨h0, h1, h2, h3⟩ | ⟨h0, h1, h2, h3⟩
  · have e : cov n i k p = -1 := by simp [cov, h0]
    rw [e]; clear e
    go_enter Try.func141, Try.ntmps141
    go_wp2_with fail
    refine (within_is n 0 60 false h0 _).mono ?_; rintro e w' ⟨rfl, rfl⟩
    go_wp2_with fail
    go_ret
    exact ⟨rfl, Below.refl _ _⟩
  · have e : cov n i k p = -1 := by simp [cov, h1]
    rw [e]; clear e
    go_enter Try.func141, Try.ntmps141
    go_wp2_with fail
    refine (within_is n 0 60 true h0 _).mono ?_; rintro e w' ⟨rfl, rfl⟩
    go_wp2_with fail
    refine (within_is i 0 60 false h1 _).mono ?_; rintro e w' ⟨rfl, rfl⟩
    go_wp2_with fail
    go_ret
    exact ⟨rfl, Below.refl _ _⟩
  · have e : cov n i k p = -1 := by simp [cov, h2]
    rw [e]; clear e
    go_enter Try.func141, Try.ntmps141
    go_wp2_with fail
    refine (within_is n 0 60 true h0 _).mono ?_; rintro e w' ⟨rfl, rfl⟩
    go_wp2_with fail
    refine (within_is i 0 60 true h1 _).mono ?_; rintro e w' ⟨rfl, rfl⟩
    go_wp2_with fail
    refine (within_is k 0 60 false h2 _).mono ?_; rintro e w' ⟨rfl, rfl⟩
    go_wp2_with fail
    go_ret
    exact ⟨rfl, Below.refl _ _⟩
  · have e : cov n i k p = -1 := by simp [cov, h3]
    rw [e]; clear e
    go_enter Try.func141, Try.ntmps141
    go_wp2_with fail
    refine (within_is n 0 60 true h0 _).mono ?_; rintro e w' ⟨rfl, rfl⟩
    go_wp2_with fail
    refine (within_is i 0 60 true h1 _).mono ?_; rintro e w' ⟨rfl, rfl⟩
    go_wp2_with fail
    refine (within_is k 0 60 true h2 _).mono ?_; rintro e w' ⟨rfl, rfl⟩
    go_wp2_with fail
    refine (isPrime_is p false h3 _).mono ?_; rintro e w' ⟨rfl, rfl⟩
    go_wp2_with fail
    go_ret
    exact ⟨rfl, Below.refl _ _⟩
  · obtain ⟨g1, g2⟩ := inB_true.1 h0
    obtain ⟨g3, g4⟩ := inB_true.1 h1
    obtain ⟨g5, g6⟩ := inB_true.1 h2
    obtain ⟨gp1, gp2⟩ := prm_bd h3
    have H0 := Lib.hid h0
    have H1 := Lib.hid h1
    have H2 := Lib.hid h2
    have H3 := Lib.hid h3
    have e : cov n i k p = if i + k = n then pas p n.toNat i.toNat else 0 := by simp [cov, h0, h1, h2, h3]
    rw [e]; clear e h0 h1 h2 h3
    by_cases hs : i + k = n
    · rw [if_pos hs]
      obtain ⟨r, hr⟩ : ∃ r, r = pas p n.toNat i.toNat := ⟨_, rfl⟩
      have HR := Lib.hid hr
      rw [← hr]; clear hr
      obtain ⟨m, rfl⟩ := Int.eq_ofNat_of_zero_le g1
      have e2 : binv m i p = r := by rw [HR.out]; simp [binv, inB_true.2 (show 0 ≤ i ∧ i ≤ (m : Int) by omega)]
      have C := Lib.hid (binomial_any m i p (by omega) gp1 gp2)
      rw [e2] at C
      clear e2
      have hne : (i + k != (m : Int)) = false := by simp; omega
      have HS := Lib.hid hs
      clear hs
      go_enter Try.func141, Try.ntmps141
      go_wp2_with fail
      refine (within_is (m : Int) 0 60 true H0.out _).mono ?_; rintro e w' ⟨rfl, rfl⟩
      go_wp2_with fail
      refine (within_is i 0 60 true H1.out _).mono ?_; rintro e w' ⟨rfl, rfl⟩
      go_wp2_with fail
      refine (within_is k 0 60 true H2.out _).mono ?_; rintro e w' ⟨rfl, rfl⟩
      go_wp2_with fail
      refine (isPrime_is p true H3.out _).mono ?_; rintro e w' ⟨rfl, rfl⟩
      go_wp2_with fail
      refine (C.out _).mono ?_; rintro e w1 ⟨rfl, b1⟩
      go_wp2_with fail
      go_ret
      exact ⟨rfl, b1⟩
    · rw [if_neg hs]
      have hne : (i + k != n) = true := by simpa using hs
      have HS := Lib.hid hs
      clear hs
      go_enter Try.func141, Try.ntmps141
      go_wp2_with fail
      refine (within_is n 0 60 true H0.out _).mono ?_; rintro e w' ⟨rfl, rfl⟩
      go_wp2_with fail
      refine (within_is i 0 60 true H1.out _).mono ?_; rintro e w' ⟨rfl, rfl⟩
      go_wp2_with fail
      refine (within_is k 0 60 true H2.out _).mono ?_; rintro e w' ⟨rfl, rfl⟩
      go_wp2_with fail
      refine (isPrime_is p true H3.out _).mono ?_; rintro e w' ⟨rfl, rfl⟩
      go_wp2_with fail
      go_ret
      exact ⟨rfl, Below.refl _ _⟩

set_option maxHeartbeats 1600000 in
theorem cov_spec (n i k p : Int) (w : World) :
    Calls Try.prog 142 #[.int .i64 n, .int .i64 i, .int .i64 k, .int .i64 p] w fun e w' => e = .returned (.int .i64 (cov n i k p)) ∧ Below w.heap.size w w' := by
  rcases co_ways n i k p with h0 | ⟨h0, h1⟩ | ⟨h0, h1, h2⟩ | ⟨h0, h1, h2, h3⟩ | ⟨h0, h1, h2, h3⟩
  · have e : cov n i k p = -1 := by simp [cov, h0]
    rw [e]; clear e
    go_enter Try.func142, Try.ntmps142
    go_wp2_with fail
    refine (l1In_is n 0 60 false h0 _).mono ?_; rintro e w' ⟨rfl, rfl⟩
    go_wp2_with fail
    go_ret
    exact ⟨rfl, Below.refl _ _⟩
  · have e : cov n i k p = -1 := by simp [cov, h1]
    rw [e]; clear e
    go_enter Try.func142, Try.ntmps142
    go_wp2_with fail
    refine (l1In_is n 0 60 true h0 _).mono ?_; rintro e w' ⟨rfl, rfl⟩
    go_wp2_with fail
    refine (l1In_is i 0 60 false h1 _).mono ?_; rintro e w' ⟨rfl, rfl⟩
    go_wp2_with fail
    go_ret
    exact ⟨rfl, Below.refl _ _⟩
  · have e : cov n i k p = -1 := by simp [cov, h2]
    rw [e]; clear e
    go_enter Try.func142, Try.ntmps142
    go_wp2_with fail
    refine (l1In_is n 0 60 true h0 _).mono ?_; rintro e w' ⟨rfl, rfl⟩
    go_wp2_with fail
    refine (l1In_is i 0 60 true h1 _).mono ?_; rintro e w' ⟨rfl, rfl⟩
    go_wp2_with fail
    refine (l1In_is k 0 60 false h2 _).mono ?_; rintro e w' ⟨rfl, rfl⟩
    go_wp2_with fail
    go_ret
    exact ⟨rfl, Below.refl _ _⟩
  · have e : cov n i k p = -1 := by simp [cov, h3]
    rw [e]; clear e
    go_enter Try.func142, Try.ntmps142
    go_wp2_with fail
    refine (l1In_is n 0 60 true h0 _).mono ?_; rintro e w' ⟨rfl, rfl⟩
    go_wp2_with fail
    refine (l1In_is i 0 60 true h1 _).mono ?_; rintro e w' ⟨rfl, rfl⟩
    go_wp2_with fail
    refine (l1In_is k 0 60 true h2 _).mono ?_; rintro e w' ⟨rfl, rfl⟩
    go_wp2_with fail
    refine (l26Prime_is p false h3 _).mono ?_; rintro e w' ⟨rfl, rfl⟩
    go_wp2_with fail
    go_ret
    exact ⟨rfl, Below.refl _ _⟩
  · obtain ⟨g1, g2⟩ := inB_true.1 h0
    obtain ⟨g3, g4⟩ := inB_true.1 h1
    obtain ⟨g5, g6⟩ := inB_true.1 h2
    obtain ⟨gp1, gp2⟩ := prm_bd h3
    have H0 := Lib.hid h0
    have H1 := Lib.hid h1
    have H2 := Lib.hid h2
    have H3 := Lib.hid h3
    have e : cov n i k p = if i + k = n then pas p n.toNat i.toNat else 0 := by simp [cov, h0, h1, h2, h3]
    rw [e]; clear e h0 h1 h2 h3
    by_cases hs : i + k = n
    · rw [if_pos hs]
      obtain ⟨r, hr⟩ : ∃ r, r = pas p n.toNat i.toNat := ⟨_, rfl⟩
      have HR := Lib.hid hr
      rw [← hr]; clear hr
      have e2 : bmv n i p = r := by rw [HR.out]; simp [bmv, H0.out, H3.out, inB_true.2 (show 0 ≤ i ∧ i ≤ n by omega)]
      have C := Lib.hid (bm_spec n i p)
      rw [e2] at C
      clear e2
      have hne : (i + k != n) = false := by simp; omega
      have HS := Lib.hid hs
      clear hs
      go_enter Try.func142, Try.ntmps142
      go_wp2_with fail
      refine (l1In_is n 0 60 true H0.out _).mono ?_; rintro e w' ⟨rfl, rfl⟩
      go_wp2_with fail
      refine (l1In_is i 0 60 true H1.out _).mono ?_; rintro e w' ⟨rfl, rfl⟩
      go_wp2_with fail
      refine (l1In_is k 0 60 true H2.out _).mono ?_; rintro e w' ⟨rfl, rfl⟩
      go_wp2_with fail
      refine (l26Prime_is p true H3.out _).mono ?_; rintro e w' ⟨rfl, rfl⟩
      go_wp2_with fail
      refine (C.out _).mono ?_; rintro e w1 ⟨rfl, b1⟩
      go_wp2_with fail
      go_ret
      exact ⟨rfl, b1⟩
    · rw [if_neg hs]
      have hne : (i + k != n) = true := by simpa using hs
      have HS := Lib.hid hs
      clear hs
      go_enter Try.func142, Try.ntmps142
      go_wp2_with fail
      refine (l1In_is n 0 60 true H0.out _).mono ?_; rintro e w' ⟨rfl, rfl⟩
      go_wp2_with fail
      refine (l1In_is i 0 60 true H1.out _).mono ?_; rintro e w' ⟨rfl, rfl⟩
      go_wp2_with fail
      refine (l1In_is k 0 60 true H2.out _).mono ?_; rintro e w' ⟨rfl, rfl⟩
      go_wp2_with fail
      refine (l26Prime_is p true H3.out _).mono ?_; rintro e w' ⟨rfl, rfl⟩
      go_wp2_with fail
      go_ret
      exact ⟨rfl, Below.refl _ _⟩

/-- What DistinctCoefficient returns. -/
def dcv (i k p : Int) : Int := if inB i 0 30 = true ∧ inB k 0 30 = true ∧ ¬ (i = 0 ∧ k = 0) ∧ prmB p = true then (binv (i + k - 1).toNat (i - 1) p - binv (i + k - 1).toNat i p + p) % p else -1

theorem dc_ways (i k p : Int) : inB i 0 30 = false ∨ (inB i 0 30 = true ∧ inB k 0 30 = false) ∨ (inB i 0 30 = true ∧ inB k 0 30 = true ∧ i = 0 ∧ k = 0) ∨ (inB i 0 30 = true ∧ inB k 0 30 = true ∧ ¬ (i = 0 ∧ k = 0) ∧ prmB p = false) ∨ (inB i 0 30 = true ∧ inB k 0 30 = true ∧ ¬ (i = 0 ∧ k = 0) ∧ prmB p = true) := by
  cases inB i 0 30 <;> cases inB k 0 30 <;> cases prmB p <;> by_cases h : i = 0 ∧ k = 0 <;> simp [h]
theorem binv_bd (n : Nat) (k p : Int) (hp : 2 ≤ p) : 0 ≤ binv n k p ∧ binv n k p < p := by
  unfold binv
  split
  · exact pas_bd p hp _ _
  · omega

set_option maxHeartbeats 1600000 in
theorem dcv_impl (i k p : Int) (w : World) :
    Calls Try.prog 144 #[.int .i64 i, .int .i64 k, .int .i64 p] w fun e w' => e = .returned (.int .i64 (dcv i k p)) ∧ Below w.heap.size w w' := by
  rcases dc_ways i k p with h0 | ⟨h0, h1⟩ | ⟨h0, h1, h2, h3⟩ | ⟨h0, h1, h2, h3⟩ | ⟨h0, h1, h2, h3⟩
  · have e : dcv i k p = -1 := by simp [dcv, h0]
    rw [e]; clear e
    go_enter Try.func144, Try.ntmps144
    go_wp2_with fail
    refine (within_is i 0 30 false h0 _).mono ?_; rintro e w' ⟨rfl, rfl⟩
    go_wp2_with fail
    go_ret
    exact ⟨rfl, Below.refl _ _⟩
  · have e : dcv i k p = -1 := by simp [dcv, h1]
    rw [e]; clear e
    go_enter Try.func144, Try.ntmps144
    go_wp2_with fail
    refine (within_is i 0 30 true h0 _).mono ?_; rintro e w' ⟨rfl, rfl⟩
    go_wp2_with fail
    refine (within_is k 0 30 false h1 _).mono ?_; rintro e w' ⟨rfl, rfl⟩
    go_wp2_with fail
    go_ret
    exact ⟨rfl, Below.refl _ _⟩
  · have e : dcv i k p = -1 := by simp [dcv, h2, h3]
    rw [e]; clear e
    subst h2; subst h3
    go_enter Try.func144, Try.ntmps144
    go_wp2_with fail
    refine (within_is 0 0 30 true h0 _).mono ?_; rintro e w' ⟨rfl, rfl⟩
    go_wp2_with fail
    refine (within_is 0 0 30 true h1 _).mono ?_; rintro e w' ⟨rfl, rfl⟩
    go_wp2_with fail
    go_ret
    exact ⟨rfl, Below.refl _ _⟩
  · have e : dcv i k p = -1 := by simp [dcv, h3]
    rw [e]; clear e
    obtain ⟨g1, g2⟩ := inB_true.1 h0
    obtain ⟨g3, g4⟩ := inB_true.1 h1
    by_cases hi : i = 0
    · have hk : ¬ k = 0 := fun h => h2 ⟨hi, h⟩
      subst hi
      clear h2
      go_enter Try.func144, Try.ntmps144
      go_wp2_with fail
      refine (within_is 0 0 30 true h0 _).mono ?_; rintro e w' ⟨rfl, rfl⟩
      go_wp2_with fail
      refine (within_is k 0 30 true h1 _).mono ?_; rintro e w' ⟨rfl, rfl⟩
      go_wp2_with fail
      refine (isPrime_is p false h3 _).mono ?_; rintro e w' ⟨rfl, rfl⟩
      go_wp2_with fail
      go_ret
      exact ⟨rfl, Below.refl _ _⟩
    · clear h2
      go_enter Try.func144, Try.ntmps144
      go_wp2_with fail
      refine (within_is i 0 30 true h0 _).mono ?_; rintro e w' ⟨rfl, rfl⟩
      go_wp2_with fail
      refine (within_is k 0 30 true h1 _).mono ?_; rintro e w' ⟨rfl, rfl⟩
      go_wp2_with fail
      refine (isPrime_is p false h3 _).mono ?_; rintro e w' ⟨rfl, rfl⟩
      go_wp2_with fail
      go_ret
      exact ⟨rfl, Below.refl _ _⟩
  · have e : dcv i k p = (binv (i + k - 1).toNat (i - 1) p - binv (i + k - 1).toNat i p + p) % p := by simp only [dcv, h0, h1, h3, true_and, and_true]; rw [if_pos h2]
    rw [e]; clear e
    obtain ⟨g1, g2⟩ := inB_true.1 h0
    obtain ⟨g3, g4⟩ := inB_true.1 h1
    obtain ⟨gp1, gp2⟩ := prm_bd h3
    obtain ⟨n, hn⟩ : ∃ n : Nat, i + k - 1 = n := Int.eq_ofNat_of_zero_le (by omega)
    have hn60 : n ≤ 60 := by omega
    rw [hn]
    simp only [Int.toNat_natCast]
    have bx := binv_bd n (i - 1) p gp1
    have bz := binv_bd n i p gp1
    have C1 := Lib.hid (binomial_any n (i - 1) p hn60 gp1 gp2)
    have C2 := Lib.hid (binomial_any n i p hn60 gp1 gp2)
    obtain ⟨x, hx⟩ : ∃ x, x = binv n (i - 1) p := ⟨_, rfl⟩
    obtain ⟨z, hz⟩ : ∃ z, z = binv n i p := ⟨_, rfl⟩
    rw [← hx] at C1 bx ⊢
    rw [← hz] at C2 bz ⊢
    rw [← hn] at C1 C2
    have H0 := Lib.hid h0
    have H1 := Lib.hid h1
    have H3 := Lib.hid h3
    have hge : 0 ≤ x - z + p := by omega
    have hv : 1 ≤ i + k := by omega
    clear hx hz hn h0 h1 h3
    by_cases hi : i = 0
    · have hk : ¬ k = 0 := fun h => h2 ⟨hi, h⟩
      subst hi
      clear h2
      go_enter Try.func144, Try.ntmps144
      go_wp2_with fail
      refine (within_is 0 0 30 true H0.out _).mono ?_; rintro e w' ⟨rfl, rfl⟩
      go_wp2_with fail
      refine (within_is k 0 30 true H1.out _).mono ?_; rintro e w' ⟨rfl, rfl⟩
      go_wp2_with fail
      refine (isPrime_is p true H3.out _).mono ?_; rintro e w' ⟨rfl, rfl⟩
      go_wp2_with fail
      simp only [Int.zero_add, Int.zero_sub] at C1 C2
      refine (C1.out _).mono ?_; rintro e w1 ⟨rfl, b1⟩
      go_wp2_with fail
      refine (C2.out _).mono ?_; rintro e w2 ⟨rfl, b2⟩
      go_wp2_with fail
      go_ret
      exact ⟨rfl, nx b1 b2⟩
    · clear h2
      go_enter Try.func144, Try.ntmps144
      go_wp2_with fail
      refine (within_is i 0 30 true H0.out _).mono ?_; rintro e w' ⟨rfl, rfl⟩
      go_wp2_with fail
      refine (within_is k 0 30 true H1.out _).mono ?_; rintro e w' ⟨rfl, rfl⟩
      go_wp2_with fail
      refine (isPrime_is p true H3.out _).mono ?_; rintro e w' ⟨rfl, rfl⟩
      go_wp2_with fail
      refine (C1.out _).mono ?_; rintro e w1 ⟨rfl, b1⟩
      go_wp2_with fail
      refine (C2.out _).mono ?_; rintro e w2 ⟨rfl, b2⟩
      go_wp2_with fail
      go_ret
      exact ⟨rfl, nx b1 b2⟩

set_option maxHeartbeats 1600000 in
theorem dcv_spec (i k p : Int) (w : World) :
    Calls Try.prog 145 #[.int .i64 i, .int .i64 k, .int .i64 p] w fun e w' => e = .returned (.int .i64 (dcv i k p)) ∧ Below w.heap.size w w' := by
  rcases dc_ways i k p with h0 | ⟨h0, h1⟩ | ⟨h0, h1, h2, h3⟩ | ⟨h0, h1, h2, h3⟩ | ⟨h0, h1, h2, h3⟩
  · have e : dcv i k p = -1 := by simp [dcv, h0]
    rw [e]; clear e
    go_enter Try.func145, Try.ntmps145
    go_wp2_with fail
    refine (l1In_is i 0 30 false h0 _).mono ?_; rintro e w' ⟨rfl, rfl⟩
    go_wp2_with fail
    go_ret
    exact ⟨rfl, Below.refl _ _⟩
  · have e : dcv i k p = -1 := by simp [dcv, h1]
    rw [e]; clear e
    go_enter Try.func145, Try.ntmps145
    go_wp2_with fail
    refine (l1In_is i 0 30 true h0 _).mono ?_; rintro e w' ⟨rfl, rfl⟩
    go_wp2_with fail
    refine (l1In_is k 0 30 false h1 _).mono ?_; rintro e w' ⟨rfl, rfl⟩
    go_wp2_with fail
    go_ret
    exact ⟨rfl, Below.refl _ _⟩
  · have e : dcv i k p = -1 := by simp [dcv, h2, h3]
    rw [e]; clear e
    subst h2; subst h3
    go_enter Try.func145, Try.ntmps145
    go_wp2_with fail
    refine (l1In_is 0 0 30 true h0 _).mono ?_; rintro e w' ⟨rfl, rfl⟩
    go_wp2_with fail
    refine (l1In_is 0 0 30 true h1 _).mono ?_; rintro e w' ⟨rfl, rfl⟩
    go_wp2_with fail
    go_ret
    exact ⟨rfl, Below.refl _ _⟩
  · have e : dcv i k p = -1 := by simp [dcv, h3]
    rw [e]; clear e
    obtain ⟨g1, g2⟩ := inB_true.1 h0
    obtain ⟨g3, g4⟩ := inB_true.1 h1
    have hik : (i + k == 0) = false := by simp; omega
    clear h2
    go_enter Try.func145, Try.ntmps145
    go_wp2_with fail
    refine (l1In_is i 0 30 true h0 _).mono ?_; rintro e w' ⟨rfl, rfl⟩
    go_wp2_with fail
    refine (l1In_is k 0 30 true h1 _).mono ?_; rintro e w' ⟨rfl, rfl⟩
    go_wp2_with fail
    refine (l26Prime_is p false h3 _).mono ?_; rintro e w' ⟨rfl, rfl⟩
    go_wp2_with fail
    go_ret
    exact ⟨rfl, Below.refl _ _⟩
  · have e : dcv i k p = (binv (i + k - 1).toNat (i - 1) p - binv (i + k - 1).toNat i p + p) % p := by simp only [dcv, h0, h1, h3, true_and, and_true]; rw [if_pos h2]
    rw [e]; clear e
    obtain ⟨g1, g2⟩ := inB_true.1 h0
    obtain ⟨g3, g4⟩ := inB_true.1 h1
    obtain ⟨gp1, gp2⟩ := prm_bd h3
    obtain ⟨n, hn⟩ : ∃ n : Nat, i + k - 1 = n := Int.eq_ofNat_of_zero_le (by omega)
    have hn60 : n ≤ 60 := by omega
    rw [hn]
    simp only [Int.toNat_natCast]
    have bx := binv_bd n (i - 1) p gp1
    have bz := binv_bd n i p gp1
    have hik : (i + k == 0) = false := by simp; omega
    have hx1 : 0 < i → bmv n (i - 1) p = binv n (i - 1) p := fun h => by
      simp [bmv, binv, h3, inB_true.2 (show 0 ≤ (n : Int) ∧ (n : Int) ≤ 60 by omega), inB_true.2 (show 0 ≤ i - 1 ∧ i - 1 ≤ (n : Int) by omega)]
    have hx0 : ¬ 0 < i → binv n (i - 1) p = 0 := fun h => by
      simp [binv, inB_false.2 (show i - 1 < 0 ∨ (n : Int) < i - 1 by omega)]
    have hz1 : 0 < k → bmv n i p = binv n i p := fun h => by
      simp [bmv, binv, h3, inB_true.2 (show 0 ≤ (n : Int) ∧ (n : Int) ≤ 60 by omega), inB_true.2 (show 0 ≤ i ∧ i ≤ (n : Int) by omega)]
    have hz0 : ¬ 0 < k → binv n i p = 0 := fun h => by
      simp [binv, inB_false.2 (show i < 0 ∨ (n : Int) < i by omega)]
    have C1 := Lib.hid (bm_spec n (i - 1) p)
    have C2 := Lib.hid (bm_spec n i p)
    obtain ⟨x, hx⟩ : ∃ x, x = binv n (i - 1) p := ⟨_, rfl⟩
    obtain ⟨z, hz⟩ : ∃ z, z = binv n i p := ⟨_, rfl⟩
    rw [← hx] at hx1 hx0 bx ⊢
    rw [← hz] at hz1 hz0 bz ⊢
    rw [← hn] at C1 C2 hx1 hz1
    have H0 := Lib.hid h0
    have H1 := Lib.hid h1
    have H3 := Lib.hid h3
    have hge : 0 ≤ x - z + p := by omega
    have hv : 1 ≤ i + k := by omega
    clear hx hz hn h0 h1 h3 h2
    by_cases hi : 0 < i
    · rw [hx1 hi] at C1
      clear hx1 hx0
      by_cases hk : 0 < k
      · rw [hz1 hk] at C2
        clear hz1 hz0
        go_enter Try.func145, Try.ntmps145
        go_wp2_with fail
        refine (l1In_is i 0 30 true H0.out _).mono ?_; rintro e w' ⟨rfl, rfl⟩
        go_wp2_with fail
        refine (l1In_is k 0 30 true H1.out _).mono ?_; rintro e w' ⟨rfl, rfl⟩
        go_wp2_with fail
        refine (l26Prime_is p true H3.out _).mono ?_; rintro e w' ⟨rfl, rfl⟩
        go_wp2_with fail
        refine (C1.out _).mono ?_; rintro e w1 ⟨rfl, b1⟩
        go_wp2_with fail
        refine (C2.out _).mono ?_; rintro e w2 ⟨rfl, b2⟩
        go_wp2_with fail
        go_ret
        exact ⟨rfl, nx b1 b2⟩
      · obtain rfl : z = 0 := hz0 hk
        clear hz1 hz0
        go_enter Try.func145, Try.ntmps145
        go_wp2_with fail
        refine (l1In_is i 0 30 true H0.out _).mono ?_; rintro e w' ⟨rfl, rfl⟩
        go_wp2_with fail
        refine (l1In_is k 0 30 true H1.out _).mono ?_; rintro e w' ⟨rfl, rfl⟩
        go_wp2_with fail
        refine (l26Prime_is p true H3.out _).mono ?_; rintro e w' ⟨rfl, rfl⟩
        go_wp2_with fail
        refine (C1.out _).mono ?_; rintro e w1 ⟨rfl, b1⟩
        go_wp2_with fail
        go_ret
        exact ⟨ret_int (by simp), b1⟩
    · obtain rfl : x = 0 := hx0 hi
      have hk : 0 < k := by omega
      rw [hz1 hk] at C2
      clear hx1 hx0 hz1 hz0
      go_enter Try.func145, Try.ntmps145
      go_wp2_with fail
      refine (l1In_is i 0 30 true H0.out _).mono ?_; rintro e w' ⟨rfl, rfl⟩
      go_wp2_with fail
      refine (l1In_is k 0 30 true H1.out _).mono ?_; rintro e w' ⟨rfl, rfl⟩
      go_wp2_with fail
      refine (l26Prime_is p true H3.out _).mono ?_; rintro e w' ⟨rfl, rfl⟩
      go_wp2_with fail
      refine (C2.out _).mono ?_; rintro e w1 ⟨rfl, b1⟩
      go_wp2_with fail
      go_ret
      exact ⟨ret_int (by simp), b1⟩

end Go.Proofs.Ytbidkjhgodkamaa
