/-
Contracts of both additions in a group: place by place modulo the orders. Conditions: orders of a group, elements at most 1000000.
-/
import Derived.Test.YtokpgbpdmfibjaaGrp
import Derived.Deep.RegionHeld3
import Derived.Deep.QuietTactic
import Derived.BigQuiet
namespace Go.Proofs.Ytokpgbpdmfibjaa
open Go.RowKit Go.ChangeShapes

def gadd : List Int → Nat → Nat → Nat
  | [], _, _ => 0
  | o :: os, x, y => (x % o.toNat + y % o.toNat) % o.toNat + o.toNat * gadd os (x / o.toNat) (y / o.toNat)
theorem ordsIn_at {os : List Int} (h : ordsIn os = true) {k : Nat} (hk : k < os.length) : 2 ≤ os[k] ∧ os[k] ≤ 24 := by
  unfold ordsIn at h
  rw [List.all_eq_true] at h
  obtain ⟨h1, h2⟩ := inB_true.1 (h _ (List.getElem_mem hk))
  exact ⟨h1, h2⟩
/-- What a round of the addition keeps. -/
structure AddSt (os : List Int) (x y k X Y Z U : Nat) : Prop where
  eq : Z + U * gadd (os.drop k) X Y = gadd os x y
  hU : (U : Int) = gord (os.take k)
  hZ : Z < U
  hX : X ≤ 1000000
  hY : Y ≤ 1000000
theorem AddSt.start (os : List Int) {x y : Nat} (hx : x ≤ 1000000) (hy : y ≤ 1000000) : AddSt os x y 0 x y 0 1 :=
  ⟨by simp, by simp [gord], by omega, hx, hy⟩
theorem AddSt.step {os : List Int} {x y k X Y Z U n : Nat} (h : AddSt os x y k X Y Z U) (hk : k < os.length) (hn : os[k] = (n : Int)) (h2 : 2 ≤ n) :
    AddSt os x y (k + 1) (X / n) (Y / n) (Z + (X % n + Y % n) % n * U) (U * n) := by
  obtain ⟨e, hU, hZ, hX, hY⟩ := h
  have hd : os.drop k = os[k] :: os.drop (k + 1) := (List.getElem_cons_drop hk).symm
  have hlt : (X % n + Y % n) % n < n := Nat.mod_lt _ (by omega)
  refine ⟨?_, ?_, ?_, ?_, ?_⟩
  · rw [← e, hd, hn]
    simp only [gadd, Int.toNat_natCast]
    rw [Nat.mul_add, ← Nat.mul_assoc, Nat.add_assoc, Nat.mul_comm _ U]
  · rw [gord_take hk, ← hU, hn]; push_cast; rfl
  · generalize (X % n + Y % n) % n = d at hlt
    have : (d + 1) * U ≤ n * U := Nat.mul_le_mul_right _ hlt
    rw [Nat.add_mul] at this
    rw [Nat.mul_comm U n]
    omega
  · exact Nat.le_trans (Nat.div_le_self _ _) hX
  · exact Nat.le_trans (Nat.div_le_self _ _) hY
theorem AddSt.bd {os : List Int} {x y k X Y Z U : Nat} (h : AddSt os x y k X Y Z U) (ho : ordsIn os = true) (hl : os.length ≤ 3) : 1 ≤ U ∧ U ≤ 13824 ∧ Z < U := by
  have := gord_bd _ (ordsIn_take k ho) (by simp; omega)
  rw [← h.hU] at this
  have := h.hZ
  omega

set_option maxHeartbeats 1600000 in
theorem l2Add_any (a0 : Option Addr) (c0 : Nat) (os : List Int) (x y : Nat) (w : World) (h0 : Ints w a0 c0 os) (hg0 : grpB os = true) (hx : x ≤ 1000000) (hy : y ≤ 1000000) :
    Calls Try.prog 102 #[.agg #[.slice a0 os.length c0], .int .i64 x, .int .i64 y] w fun e w' => e = .returned (.int .i64 (gadd os x y)) ∧ Below w.heap.size w w' := by
  obtain ⟨-, -, -, -, hcs⟩ := h0
  obtain ⟨g1, g2, g3, g4⟩ := grp_parts hg0
  have HC := Lib.hid hcs
  have HO := Lib.hid g2
  have HS := Lib.hid (AddSt.start os hx hy)
  have hb0 := (Below.refl w.heap.size w).alloc (Nat.le_refl _) (.cells #[.slice a0 os.length c0] 26)
  clear hcs hg0 g2
  go_enter Try.func102, Try.ntmps102
  go_wp2_with fail
  go_loopw [1, 2, 7, 8, 9] (fun vx vy vz vu vi wr => ∃ (k X Y Z U : Nat), k ≤ os.length ∧ vi = .int .i64 k ∧ vx = .int .i64 X ∧ vy = .int .i64 Y ∧ vz = .int .i64 Z ∧ vu = .int .i64 U ∧ Hid (AddSt os x y k X Y Z U) ∧ Below w.heap.size w wr ∧ wr.cell? ⟨w.heap.size, 0, none⟩ = some (.slice a0 os.length c0)) (fun _ _ _ _ i _ => os.length - (intOf i).toNat)
  case atStart => exact ⟨0, x, y, 0, 1, by omega, rfl, rfl, rfl, rfl, rfl, HS, hb0, by simp [go_sem]⟩
  case round =>
    obtain ⟨k, X, Y, Z, U, hk, rfl, rfl, rfl, rfl, rfl, HA, hbel, hbox⟩ := hrel
    by_cases hlt : k < os.length
    · rcases HC.out with hcs | ⟨b, off, rfl, hbB, hcell⟩
      · subst hcs; simp at hlt
      · have c1 : wr.cell? ⟨b, off + k, none⟩ = some (.int .i64 os[k]) := (hbel.cell (p := ⟨b, off + k, none⟩) hbB).trans (hcell k hlt)
        obtain ⟨n1, n2⟩ := ordsIn_at HO.out hlt
        obtain ⟨n, hn⟩ := Int.eq_ofNat_of_zero_le (show 0 ≤ os[k] by omega)
        have hst := HA.out.step hlt hn (by omega)
        have hbd := hst.bd HO.out g1
        have hba := HA.out.bd HO.out g1
        rw [hn] at c1 n1 n2
        have HN := Lib.hid hst
        have m1 : (X % n + Y % n) % n < n := Nat.mod_lt _ (by omega)
        have m2 : (X % n) < n := Nat.mod_lt _ (by omega)
        have m3 : (Y % n) < n := Nat.mod_lt _ (by omega)
        have hx1 := HN.out.hX
        have hy1 := HN.out.hY
        have hx2 := HA.out.hX
        have hy2 := HA.out.hY
        have e3 : (X : Int) % (n : Int) = ((X % n : Nat) : Int) := rfl
        have e4 : (Y : Int) % (n : Int) = ((Y % n : Nat) : Int) := rfl
        have e5 : (X : Int) / (n : Int) = ((X / n : Nat) : Int) := rfl
        have e6 : (Y : Int) / (n : Int) = ((Y / n : Nat) : Int) := rfl
        generalize X / n = X' at *
        generalize Y / n = Y' at *
        generalize X % n = A at *
        generalize Y % n = B at *
        have e7 : ((A : Int) + (B : Int)) % (n : Int) = (((A + B) % n : Nat) : Int) := rfl
        generalize (A + B) % n = D at *
        obtain ⟨P, hP⟩ : ∃ P, P = D * U := ⟨_, rfl⟩
        obtain ⟨Q, hQ⟩ : ∃ Q, Q = U * n := ⟨_, rfl⟩
        rw [← hP, ← hQ] at HN hbd
        have e1 : (D : Int) * (U : Int) = (P : Int) := by rw [hP]; push_cast; rfl
        have e2 : (U : Int) * (n : Int) = (Q : Int) := by rw [hQ]; push_cast; rfl
        clear hst hn hcell HA hP hQ
        go_wp2_with fail
        go_quiet (fail)
        go_wp2_with fail
        go_roundw
        · exact ⟨k + 1, X', Y', Z + P, Q, by omega, by go_num, rfl, rfl, by go_num, rfl, HN, below_drewN hbel _, hbox⟩
        · simp only [intOf]; omega
    · obtain rfl : k = os.length := by omega
      have e : Z = gadd os x y := by have := HA.out.eq; simpa [gadd] using this
      subst e
      clear HC HO HA HS
      go_wp2_with fail
      go_ret
      exact ⟨rfl, hbel⟩
set_option maxHeartbeats 1600000 in
theorem add_any (a0 : Option Addr) (c0 : Nat) (os : List Int) (x y : Nat) (w : World) (h0 : Ints w a0 c0 os) (hg0 : grpB os = true) (hx : x ≤ 1000000) (hy : y ≤ 1000000) :
    Calls Try.prog 79 #[.agg #[.slice a0 os.length c0], .int .i64 x, .int .i64 y] w fun e w' => e = .returned (.int .i64 (gadd os x y)) ∧ Below w.heap.size w w' := by
  obtain ⟨-, -, -, -, hcs⟩ := h0
  obtain ⟨g1, g2, g3, g4⟩ := grp_parts hg0
  have HC := Lib.hid hcs
  have HO := Lib.hid g2
  have HS := Lib.hid (AddSt.start os hx hy)
  have hb0 := (Below.refl w.heap.size w).alloc (Nat.le_refl _) (.cells #[.slice a0 os.length c0] 26)
  clear hcs hg0 g2
  go_enter Try.func79, Try.ntmps79
  go_wp2_with fail
  go_loopw [1, 2, 7, 8, 14] (fun vx vy vz vu vi wr => ∃ (k X Y Z U : Nat), k ≤ os.length ∧ vi = .int .i64 k ∧ vx = .int .i64 X ∧ vy = .int .i64 Y ∧ vz = .int .i64 Z ∧ vu = .int .i64 U ∧ Hid (AddSt os x y k X Y Z U) ∧ Below w.heap.size w wr) (fun _ _ _ _ i _ => os.length - (intOf i).toNat)
  case atStart => exact ⟨0, x, y, 0, 1, by omega, rfl, rfl, rfl, rfl, rfl, HS, hb0⟩
  case round =>
    obtain ⟨k, X, Y, Z, U, hk, rfl, rfl, rfl, rfl, rfl, HA, hbel⟩ := hrel
    by_cases hlt : k < os.length
    · rcases HC.out with hcs | ⟨b, off, rfl, hbB, hcell⟩
      · subst hcs; simp at hlt
      · have c1 : wr.cell? ⟨b, off + k, none⟩ = some (.int .i64 os[k]) := (hbel.cell (p := ⟨b, off + k, none⟩) hbB).trans (hcell k hlt)
        obtain ⟨n1, n2⟩ := ordsIn_at HO.out hlt
        obtain ⟨n, hn⟩ := Int.eq_ofNat_of_zero_le (show 0 ≤ os[k] by omega)
        have hst := HA.out.step hlt hn (by omega)
        have hbd := hst.bd HO.out g1
        have hba := HA.out.bd HO.out g1
        rw [hn] at c1 n1 n2
        have HN := Lib.hid hst
        have m1 : (X % n + Y % n) % n < n := Nat.mod_lt _ (by omega)
        have m2 : (X % n) < n := Nat.mod_lt _ (by omega)
        have m3 : (Y % n) < n := Nat.mod_lt _ (by omega)
        have hx1 := HN.out.hX
        have hy1 := HN.out.hY
        have hx2 := HA.out.hX
        have hy2 := HA.out.hY
        have e3 : (X : Int) % (n : Int) = ((X % n : Nat) : Int) := rfl
        have e4 : (Y : Int) % (n : Int) = ((Y % n : Nat) : Int) := rfl
        have e5 : (X : Int) / (n : Int) = ((X / n : Nat) : Int) := rfl
        have e6 : (Y : Int) / (n : Int) = ((Y / n : Nat) : Int) := rfl
        generalize X / n = X' at *
        generalize Y / n = Y' at *
        generalize X % n = A at *
        generalize Y % n = B at *
        have e7 : ((A : Int) + (B : Int)) % (n : Int) = (((A + B) % n : Nat) : Int) := rfl
        generalize (A + B) % n = D at *
        obtain ⟨P, hP⟩ : ∃ P, P = D * U := ⟨_, rfl⟩
        obtain ⟨Q, hQ⟩ : ∃ Q, Q = U * n := ⟨_, rfl⟩
        rw [← hP, ← hQ] at HN hbd
        have e1 : (D : Int) * (U : Int) = (P : Int) := by rw [hP]; push_cast; rfl
        have e2 : (U : Int) * (n : Int) = (Q : Int) := by rw [hQ]; push_cast; rfl
        clear hst hn hcell HA hP hQ
        go_wp2_with fail
        go_quiet (fail)
        go_wp2_with fail
        go_quiet (fail)
        go_wp2_with fail
        go_roundw
        · exact ⟨k + 1, X', Y', Z + P, Q, by omega, by go_num, rfl, rfl, by go_num, rfl, HN, below_drewN hbel _⟩
        · simp only [intOf]; omega
    · obtain rfl : k = os.length := by omega
      have e : Z = gadd os x y := by have := HA.out.eq; simpa [gadd] using this
      subst e
      clear HC HO HA HS
      go_wp2_with fail
      go_ret
      exact ⟨rfl, hbel⟩
end Go.Proofs.Ytokpgbpdmfibjaa
