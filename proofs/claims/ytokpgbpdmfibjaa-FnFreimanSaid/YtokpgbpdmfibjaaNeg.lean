/-
Contracts of both negatives in a group: place by place modulo the orders. Conditions: orders of a group, elements at most 1000000.
-/
import Derived.Test.YtokpgbpdmfibjaaAdd
namespace Go.Proofs.Ytokpgbpdmfibjaa
open Go.RowKit Go.ChangeShapes

def gneg : List Int → Nat → Nat
  | [], _ => 0
  | o :: os, x => (o.toNat - x % o.toNat) % o.toNat + o.toNat * gneg os (x / o.toNat)
/-- What a round of the negative keeps. -/
structure NegSt (os : List Int) (x k X Z U : Nat) : Prop where
  eq : Z + U * gneg (os.drop k) X = gneg os x
  hU : (U : Int) = gord (os.take k)
  hZ : Z < U
  hX : X ≤ 1000000
theorem NegSt.start (os : List Int) {x : Nat} (hx : x ≤ 1000000) : NegSt os x 0 x 0 1 :=
  ⟨by simp, by simp [gord], by omega, hx⟩
theorem NegSt.step {os : List Int} {x k X Z U n : Nat} (h : NegSt os x k X Z U) (hk : k < os.length) (hn : os[k] = (n : Int)) (h2 : 2 ≤ n) :
    NegSt os x (k + 1) (X / n) (Z + (n - X % n) % n * U) (U * n) := by
  obtain ⟨e, hU, hZ, hX⟩ := h
  have hd : os.drop k = os[k] :: os.drop (k + 1) := (List.getElem_cons_drop hk).symm
  have hlt : (n - X % n) % n < n := Nat.mod_lt _ (by omega)
  refine ⟨?_, ?_, ?_, ?_⟩
  · rw [← e, hd, hn]
    simp only [gneg, Int.toNat_natCast]
    rw [Nat.mul_add, ← Nat.mul_assoc, Nat.add_assoc, Nat.mul_comm _ U]
  · rw [gord_take hk, ← hU, hn]; push_cast; rfl
  · generalize (n - X % n) % n = d at hlt
    have : (d + 1) * U ≤ n * U := Nat.mul_le_mul_right _ hlt
    rw [Nat.add_mul] at this
    rw [Nat.mul_comm U n]
    omega
  · exact Nat.le_trans (Nat.div_le_self _ _) hX
theorem NegSt.bd {os : List Int} {x k X Z U : Nat} (h : NegSt os x k X Z U) (ho : ordsIn os = true) (hl : os.length ≤ 3) : 1 ≤ U ∧ U ≤ 13824 ∧ Z < U := by
  have := gord_bd _ (ordsIn_take k ho) (by simp; omega)
  rw [← h.hU] at this
  have := h.hZ
  omega

set_option maxHeartbeats 1600000 in
theorem l2Negate_any (a0 : Option Addr) (c0 : Nat) (os : List Int) (x : Nat) (w : World) (h0 : Ints w a0 c0 os) (hg0 : grpB os = true) (hx : x ≤ 1000000) :
    Calls Try.prog 100 #[.agg #[.slice a0 os.length c0], .int .i64 x] w fun e w' => e = .returned (.int .i64 (gneg os x)) ∧ Below w.heap.size w w' := by
  obtain ⟨-, -, -, -, hcs⟩ := h0
  obtain ⟨g1, g2, g3, g4⟩ := grp_parts hg0
  have HC := Lib.hid hcs
  have HO := Lib.hid g2
  have HS := Lib.hid (NegSt.start os hx)
  have hb0 := (Below.refl w.heap.size w).alloc (Nat.le_refl _) (.cells #[.slice a0 os.length c0] 26)
  clear hcs hg0 g2
  go_enter Try.func100, Try.ntmps100
  go_wp2_with fail
  go_loopw [1, 5, 6, 7] (fun vx vz vu vi wr => ∃ (k X Z U : Nat), k ≤ os.length ∧ vi = .int .i64 k ∧ vx = .int .i64 X ∧ vz = .int .i64 Z ∧ vu = .int .i64 U ∧ Hid (NegSt os x k X Z U) ∧ Below w.heap.size w wr ∧ wr.cell? ⟨w.heap.size, 0, none⟩ = some (.slice a0 os.length c0)) (fun _ _ _ i _ => os.length - (intOf i).toNat)
  case atStart => exact ⟨0, x, 0, 1, by omega, rfl, rfl, rfl, rfl, HS, hb0, by simp [go_sem]⟩
  case round =>
    obtain ⟨k, X, Z, U, hk, rfl, rfl, rfl, rfl, HA, hbel, hbox⟩ := hrel
    by_cases hlt : k < os.length
    · rcases HC.out with hcs | ⟨b, off, rfl, hbB, hcell⟩
      · subst hcs; simp at hlt
      · have c1 : wr.cell? ⟨b, off + k, none⟩ = some (.int .i64 os[k]) := (hbel.cell (p := ⟨b, off + k, none⟩) hbB).trans (hcell k hlt)
        obtain ⟨n1, n2⟩ := ordsIn_at HO.out hlt
        obtain ⟨n, hn⟩ := Int.eq_ofNat_of_zero_le (show 0 ≤ os[k] by omega)
        have hst := HA.out.step hlt hn (by omega)
        have hbd := hst.bd HO.out g1
        have hba := HA.out.bd HO.out g1
        rw [hn] at c1 n1 n2
        have HN := Lib.hid hst
        have m1 : (n - X % n) % n < n := Nat.mod_lt _ (by omega)
        have m2 : (X % n) < n := Nat.mod_lt _ (by omega)
        have hx1 := HN.out.hX
        have hx2 := HA.out.hX
        have e3 : (X : Int) % (n : Int) = ((X % n : Nat) : Int) := rfl
        have e5 : (X : Int) / (n : Int) = ((X / n : Nat) : Int) := rfl
        generalize X / n = X' at *
        generalize X % n = A at *
        have e7 : ((n : Int) - (A : Int)) % (n : Int) = (((n - A) % n : Nat) : Int) := by rw [Int.natCast_emod, Int.natCast_sub (by omega)]
        generalize (n - A) % n = D at *
        obtain ⟨P, hP⟩ : ∃ P, P = D * U := ⟨_, rfl⟩
        obtain ⟨Q, hQ⟩ : ∃ Q, Q = U * n := ⟨_, rfl⟩
        rw [← hP, ← hQ] at HN hbd
        have e1 : (D : Int) * (U : Int) = (P : Int) := by rw [hP]; push_cast; rfl
        have e2 : (U : Int) * (n : Int) = (Q : Int) := by rw [hQ]; push_cast; rfl
        clear hst hn hcell HA hP hQ
        go_wp2_with fail
        skip
        go_roundw
        · exact ⟨k + 1, X', Z + P, Q, by omega, by go_num, rfl, by go_num, rfl, HN, hbel, hbox⟩
        · simp only [intOf]; omega
    · obtain rfl : k = os.length := by omega
      have e : Z = gneg os x := by have := HA.out.eq; simpa [gneg] using this
      subst e
      clear HC HO HA HS
      go_wp2_with fail
      go_ret
      exact ⟨rfl, hbel⟩

set_option maxHeartbeats 1600000 in
theorem negate_any (a0 : Option Addr) (c0 : Nat) (os : List Int) (x : Nat) (w : World) (h0 : Ints w a0 c0 os) (hg0 : grpB os = true) (hx : x ≤ 1000000) :
    Calls Try.prog 131 #[.agg #[.slice a0 os.length c0], .int .i64 x] w fun e w' => e = .returned (.int .i64 (gneg os x)) ∧ Below w.heap.size w w' := by
  obtain ⟨-, -, -, -, hcs⟩ := h0
  obtain ⟨g1, g2, g3, g4⟩ := grp_parts hg0
  have HC := Lib.hid hcs
  have HO := Lib.hid g2
  have HS := Lib.hid (NegSt.start os hx)
  have hb0 := (Below.refl w.heap.size w).alloc (Nat.le_refl _) (.cells #[.slice a0 os.length c0] 26)
  clear hcs hg0 g2
  go_enter Try.func131, Try.ntmps131
  go_wp2_with fail
  go_loopw [1, 5, 6, 12] (fun vx vz vu vi wr => ∃ (k X Z U : Nat), k ≤ os.length ∧ vi = .int .i64 k ∧ vx = .int .i64 X ∧ vz = .int .i64 Z ∧ vu = .int .i64 U ∧ Hid (NegSt os x k X Z U) ∧ Below w.heap.size w wr) (fun _ _ _ i _ => os.length - (intOf i).toNat)
  case atStart => exact ⟨0, x, 0, 1, by omega, rfl, rfl, rfl, rfl, HS, hb0⟩
  case round =>
    obtain ⟨k, X, Z, U, hk, rfl, rfl, rfl, rfl, HA, hbel⟩ := hrel
    by_cases hlt : k < os.length
    · rcases HC.out with hcs | ⟨b, off, rfl, hbB, hcell⟩
      · subst hcs; simp at hlt
      · have c1 : wr.cell? ⟨b, off + k, none⟩ = some (.int .i64 os[k]) := (hbel.cell (p := ⟨b, off + k, none⟩) hbB).trans (hcell k hlt)
        obtain ⟨n1, n2⟩ := ordsIn_at HO.out hlt
        obtain ⟨n, hn⟩ := Int.eq_ofNat_of_zero_le (show 0 ≤ os[k] by omega)
        have hst := HA.out.step hlt hn (by omega)
        have hbd := hst.bd HO.out g1
        have hba := HA.out.bd HO.out g1
        rw [hn] at c1 n1 n2
        have HN := Lib.hid hst
        have m1 : (n - X % n) % n < n := Nat.mod_lt _ (by omega)
        have m2 : (X % n) < n := Nat.mod_lt _ (by omega)
        have hx1 := HN.out.hX
        have hx2 := HA.out.hX
        have e3 : (X : Int) % (n : Int) = ((X % n : Nat) : Int) := rfl
        have e5 : (X : Int) / (n : Int) = ((X / n : Nat) : Int) := rfl
        generalize X / n = X' at *
        generalize X % n = A at *
        have e7 : ((n : Int) - (A : Int)) % (n : Int) = (((n - A) % n : Nat) : Int) := by rw [Int.natCast_emod, Int.natCast_sub (by omega)]
        generalize (n - A) % n = D at *
        obtain ⟨P, hP⟩ : ∃ P, P = D * U := ⟨_, rfl⟩
        obtain ⟨Q, hQ⟩ : ∃ Q, Q = U * n := ⟨_, rfl⟩
        rw [← hP, ← hQ] at HN hbd
        have e1 : (D : Int) * (U : Int) = (P : Int) := by rw [hP]; push_cast; rfl
        have e2 : (U : Int) * (n : Int) = (Q : Int) := by rw [hQ]; push_cast; rfl
        clear hst hn hcell HA hP hQ
        go_wp2_with fail
        skip
        go_roundw
        · exact ⟨k + 1, X', Z + P, Q, by omega, by go_num, rfl, by go_num, rfl, HN, hbel⟩
        · simp only [intOf]; omega
    · obtain rfl : k = os.length := by omega
      have e : Z = gneg os x := by have := HA.out.eq; simpa [gneg] using this
      subst e
      clear HC HO HA HS
      go_wp2_with fail
      go_ret
      exact ⟨rfl, hbel⟩

end Go.Proofs.Ytokpgbpdmfibjaa
