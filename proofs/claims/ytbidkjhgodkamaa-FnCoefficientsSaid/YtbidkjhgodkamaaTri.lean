/-
Contracts of both TriplesIns: the number of pairs of different elements and of elements whose double is the pair's sum. Conditions: lengths at most 2000000.
-/
import Derived.Test.YtbidkjhgodkamaaSum
import Derived.Test.YtbidkjhgodkamaaCon
namespace Go.Proofs.Ytbidkjhgodkamaa
open Go.RowKit Go.ChangeShapes

def ns (g : Nat → Nat) : Nat → Nat
  | 0 => 0
  | n + 1 => ns g n + g n
theorem ns_congr {g h : Nat → Nat} : ∀ {n : Nat}, (∀ i, i < n → g i = h i) → ns g n = ns h n
  | 0, _ => rfl
  | n + 1, e => by simp only [ns]; rw [ns_congr (fun i hi => e i (by omega)), e n (by omega)]
theorem ns_add {g h : Nat → Nat} : ∀ {n : Nat}, ns (fun i => g i + h i) n = ns g n + ns h n
  | 0 => rfl
  | n + 1 => by simp only [ns]; rw [ns_add]; omega
theorem ns_swap (f : Nat → Nat → Nat) : ∀ n : Nat, ns (fun i => ns (fun k => f i k) i) n = ns (fun k => ns (fun q => f (k + 1 + q) k) (n - (k + 1))) n
  | 0 => rfl
  | n + 1 => by
    simp only [ns]
    rw [ns_swap f n, show n + 1 - (n + 1) = 0 by omega]
    have : ns (fun k => ns (fun q => f (k + 1 + q) k) (n + 1 - (k + 1))) n = ns (fun k => ns (fun q => f (k + 1 + q) k) (n - (k + 1)) + f n k) n := by
      apply ns_congr
      intro k hk
      rw [show n + 1 - (k + 1) = (n - (k + 1)) + 1 by omega]
      simp only [ns]
      rw [show k + 1 + (n - (k + 1)) = n by omega]
    rw [this, ns_add]
    simp [ns]
def nat1 (b : Bool) : Nat := if b = true then 1 else 0
/-- The element at a place. -/
def elt (l : List Int) (i : Nat) : Nat := (l.getD i 0).toNat
def triT (os : List Int) (l : List Int) (i k j : Nat) : Nat := nat1 (gadd os (elt l j) (elt l j) == gadd os (elt l i) (elt l k))
def triF (os : List Int) (l : List Int) (i k : Nat) : Nat := ns (triT os l i k) l.length
theorem triF_comm (os l : List Int) (i k : Nat) : triF os l i k = triF os l k i := by
  unfold triF
  apply ns_congr
  intro j _
  unfold triT
  rw [gadd_comm os (elt l i)]
def triS (os l : List Int) : Nat := ns (fun i => ns (fun k => triF os l i k) i) l.length
def triI (os l : List Int) : Nat := ns (fun i => ns (fun q => triF os l i (i + 1 + q)) (l.length - (i + 1))) l.length
theorem triI_eq (os l : List Int) : triI os l = triS os l := by
  unfold triI triS
  rw [ns_swap]
  apply ns_congr
  intro i _
  apply ns_congr
  intro q _
  exact triF_comm os l _ _
def triV (os : List Int) (a : Int) : Int := if setB os a = true then (triS os (mems a.toNat) : Int) else -1
theorem elt_at {l : List Int} {i : Nat} (h : i < l.length) (hb : ∀ x ∈ l, 0 ≤ x ∧ x < 64) : l[i] = (elt l i : Int) ∧ elt l i < 64 := by
  have e : l.getD i 0 = l[i] := by simp [List.getD, h]
  have := hb _ (List.getElem_mem h)
  unfold elt
  rw [e]
  omega

set_option maxRecDepth 20000 in
set_option maxHeartbeats 3200000 in
theorem tri_spec (a0 : Option Addr) (c0 : Nat) (os : List Int) (a : Int) (w : World) (h0 : Ints w a0 c0 os) (hlo : os.length ≤ 2000000) :
    Calls Try.prog 124 #[.agg #[.slice a0 os.length c0], .int .i64 a] w fun e w' => e = .returned (.int .i64 (triV os a)) ∧ Below w.heap.size w w' := by
  have hb0 := (Below.refl w.heap.size w).alloc (Nat.le_refl _) (.cells #[.slice a0 os.length c0] 26)
  have h1 := h0.below hb0 (Nat.le_refl _)
  have C := Lib.hid (fun w h => isSet_spec a0 c0 os a w h hlo)
  cases hs : setB os a with
  | false =>
    have e : triV os a = -1 := by simp [triV, hs]
    rw [e]
    rw [hs] at C
    clear hs e
    go_enter Try.func124, Try.ntmps124
    go_wp2_with fail
    refine (C.out _ h1).mono ?_; rintro e w1 ⟨rfl, b1⟩
    go_wp2_with fail
    go_ret
    exact ⟨rfl, nx hb0 b1⟩
  | true =>
    obtain ⟨hg0, m, rfl, hm⟩ := setB_parts hs
    have hT := setT_bd hg0
    have e : triV os (m : Int) = (triS os (mems m) : Int) := by simp [triV, hs]
    rw [e]
    rw [hs] at C
    have CL := Lib.hid (l3List_any m (by omega))
    have HM := Lib.hid (fun x (hx : x ∈ mems m) => mems_bd hx)
    have hlen := mems_len m
    obtain ⟨l, hl⟩ : ∃ l, l = mems m := ⟨_, rfl⟩
    rw [← hl] at CL HM hlen ⊢
    have CA := Lib.hid (fun x y w h hx hy => l2Add_any a0 c0 os x y w h hg0 hx hy)
    clear hl hs e hT hm hg0
    obtain ⟨r, hr⟩ : ∃ r, triS os l = r := ⟨_, rfl⟩
    rw [hr]
    have HR := Lib.hid hr
    clear hr
    go_enter Try.func124, Try.ntmps124
    go_wp2_with fail
    refine (C.out _ h1).mono ?_; rintro e w1 ⟨rfl, b1⟩
    have hbox := box_cell b1 (by simp)
    have h2 := h1.below b1 (Nat.le_refl _)
    have B1 := nx hb0 b1
    have z1 : w.heap.size < w1.heap.size := by have := b1.size; simp at this; omega
    go_wp2_with fail
    refine (CL.out _).mono ?_; rintro e w2 ⟨a1, c1, rfl, o1, b2⟩
    have hbox2 := (b2.cell (p := ⟨w.heap.size, 0, none⟩) z1).trans hbox
    have h3 := h2.below b2 (Nat.le_refl _)
    have B2 := nx B1 b2
    have z2 : w.heap.size < w2.heap.size := Nat.lt_of_lt_of_le z1 b2.size
    obtain ⟨-, -, -, -, hcs⟩ := o1.ints
    have HCS := Lib.hid hcs
    clear hcs b1 b2 hb0 h0 h1 h2 hbox B1 z1
    go_wp2_with fail
    go_loopw [6, 7] (fun vc vi wr => ∃ (i c : Nat), i ≤ l.length ∧ vi = .int .i64 i ∧ vc = .int .i64 c ∧ Hid (c = ns (fun i => ns (fun k => triF os l i k) i) i) ∧ c ≤ 4096 * i ∧ Below w2.heap.size w2 wr) (fun _ i _ => l.length - (intOf i).toNat)
    case atStart => exact ⟨0, 0, by omega, rfl, rfl, Lib.hid (by simp [ns]), by omega, Below.refl _ _⟩
    case round =>
      obtain ⟨i, c, hi, rfl, rfl, HI, hci, hbel⟩ := hrel
      by_cases hlt : i < l.length
      · rcases HCS.out with hcs | ⟨b, off, rfl, hbB, hcell⟩
        · subst hcs; simp at hlt
        · obtain ⟨ei, ni⟩ := elt_at hlt HM.out
          have HCI := Lib.hid (hcell i hlt)
          rw [ei] at HCI
          have HCA := Lib.hid hcell
          obtain ⟨A, hA⟩ : ∃ A, A = ns (fun i => ns (fun k => triF os l i k) i) i := ⟨_, rfl⟩
          rw [← hA] at HI
          have HAA := Lib.hid hA
          clear hcell ei hA HCS
          go_wp2_with fail
          go_loopw [6, 8] (fun vc vk wq => ∃ (k c : Nat), k ≤ i ∧ vk = .int .i64 k ∧ vc = .int .i64 c ∧ Hid (c = A + ns (fun k => triF os l i k) k) ∧ c ≤ 4096 * i + 64 * k ∧ Below w2.heap.size w2 wq) (fun _ k _ => i - (intOf k).toNat)
          case atStart => exact ⟨0, c, by omega, rfl, rfl, Lib.hid (by simp [ns]; exact HI.out), by omega, hbel⟩
          case round =>
            clear hci hbel HI
            obtain ⟨k, c, hk, rfl, rfl, HK, hck, hbel⟩ := hrel
            by_cases hlk : k < i
            · obtain ⟨ek, nk⟩ := elt_at (show k < l.length by omega) HM.out
              have HCK := Lib.hid (HCA.out k (by omega))
              rw [ek] at HCK
              obtain ⟨B, hB⟩ : ∃ B, B = A + ns (fun k => triF os l i k) k := ⟨_, rfl⟩
              rw [← hB] at HK
              have HBB := Lib.hid hB
              clear ek hB
              go_wp2_with fail
              go_loopw [6, 9] (fun vc vj wq => ∃ (j c : Nat), j ≤ l.length ∧ vj = .int .i64 j ∧ vc = .int .i64 c ∧ Hid (c = B + ns (triT os l i k) j) ∧ c ≤ 4096 * i + 64 * k + j ∧ Below w2.heap.size w2 wq) (fun _ j _ => l.length - (intOf j).toNat)
              case atStart => exact ⟨0, c, by omega, rfl, rfl, Lib.hid (by simp [ns]; exact HK.out), by omega, hbel⟩
              case round =>
                clear hck hbel HK
                obtain ⟨j, c, hj, rfl, rfl, HJ, hcj, hbel⟩ := hrel
                by_cases hlj : j < l.length
                · obtain ⟨ej, nj⟩ := elt_at hlj HM.out
                  have HCJ := Lib.hid (HCA.out j hlj)
                  rw [ej] at HCJ
                  have hstep : c + triT os l i k j = B + ns (triT os l i k) (j + 1) := by rw [HJ.out]; simp only [ns]; omega
                  have hT : triT os l i k j = nat1 (gadd os (elt l j) (elt l j) == gadd os (elt l i) (elt l k)) := rfl
                  have C1 := Lib.hid (fun w h => CA.out (elt l j) (elt l j) w h (by omega) (by omega))
                  have C2 := Lib.hid (fun w h => CA.out (elt l i) (elt l k) w h (by omega) (by omega))
                  obtain ⟨P, hP⟩ : ∃ P, P = gadd os (elt l j) (elt l j) := ⟨_, rfl⟩
                  obtain ⟨Q, hQ⟩ : ∃ Q, Q = gadd os (elt l i) (elt l k) := ⟨_, rfl⟩
                  rw [← hP, ← hQ] at hT
                  rw [← hP] at C1
                  rw [← hQ] at C2
                  have q1 := (hbel.cell (p := ⟨b, off + i, none⟩) hbB).trans HCI.out
                  have q2 := (hbel.cell (p := ⟨b, off + k, none⟩) hbB).trans HCK.out
                  have q3 := (hbel.cell (p := ⟨b, off + j, none⟩) hbB).trans HCJ.out
                  have q4 := (hbel.cell (p := ⟨w.heap.size, 0, none⟩) z2).trans hbox2
                  have h4 := h3.below hbel (Nat.le_refl _)
                  obtain ⟨yi, hyi⟩ : ∃ y, y = elt l i := ⟨_, rfl⟩
                  obtain ⟨yk, hyk⟩ : ∃ y, y = elt l k := ⟨_, rfl⟩
                  obtain ⟨yj, hyj⟩ : ∃ y, y = elt l j := ⟨_, rfl⟩
                  rw [← hyi] at q1 C2
                  rw [← hyk] at q2 C2
                  rw [← hyj] at q3 C1
                  have zb : b < wr.heap.size := Nat.lt_of_lt_of_le hbB hbel.size
                  have zw : w.heap.size < wr.heap.size := Nat.lt_of_lt_of_le z2 hbel.size
                  have l1 : (i : Int) < l.length := by omega
                  have l2 : (k : Int) < l.length := by omega
                  have l3 : (j : Int) < l.length := by omega
                  clear hP hQ hyi hyk hyj ej hbox2 h3
                  by_cases hpq : P = Q
                  · have hbq : ((P : Int) == (Q : Int)) = true := by rw [hpq]; simp
                    have hv : triT os l i k j = 1 := by rw [hT, hpq]; simp [nat1]
                    rw [hv] at hstep
                    have HST := Lib.hid hstep
                    clear hstep hv hT hpq HJ
                    go_wp2_with fail
                    go_region_held3 (fun w' => w'.cell? ⟨w.heap.size, 0, none⟩ = some (.slice a0 os.length c0) ∧ w'.cell? ⟨b, off + i, none⟩ = some (.int .i64 yi) ∧ w'.cell? ⟨b, off + k, none⟩ = some (.int .i64 yk) ∧ w'.cell? ⟨b, off + j, none⟩ = some (.int .i64 yj)) (exact ⟨by assumption, by assumption, by assumption, by assumption⟩) (first
                      | (go_at_call 224; refine (C2.out _ h5).mono ?_; rintro e w7 ⟨rfl, b7⟩; have y1 := (b7.cell (p := ⟨b, off + i, none⟩) (Nat.lt_of_lt_of_le zb b6.size)).trans p1; have y2 := (b7.cell (p := ⟨b, off + k, none⟩) (Nat.lt_of_lt_of_le zb b6.size)).trans p2; have y3 := (b7.cell (p := ⟨b, off + j, none⟩) (Nat.lt_of_lt_of_le zb b6.size)).trans p3; have y4 := (b7.cell (p := ⟨w.heap.size, 0, none⟩) (Nat.lt_of_lt_of_le zw b6.size)).trans p4)
                      | (go_at_call 224; refine (C1.out _ h4.drew).mono ?_; rintro e w6 ⟨rfl, b6⟩; have h5 := h4.below (below_undrew b6) (Nat.le_refl _); have p1 := (b6.cell (p := ⟨b, off + i, none⟩) zb).trans q1; have p2 := (b6.cell (p := ⟨b, off + k, none⟩) zb).trans q2; have p3 := (b6.cell (p := ⟨b, off + j, none⟩) zb).trans q3; have p4 := (b6.cell (p := ⟨w.heap.size, 0, none⟩) zw).trans q4))
                    go_wp2_with fail
                    go_roundw
                    · exact ⟨j + 1, c + 1, by omega, by go_num, by go_num, HST, by omega, nx hbel (nx (below_undrew b6) b7)⟩
                    · simp only [intOf]; omega
                  · have hbq : ((P : Int) == (Q : Int)) = false := by rw [nat_beq]; simpa using hpq
                    have hv : triT os l i k j = 0 := by rw [hT]; simp [nat1, hpq]
                    rw [hv] at hstep
                    have HST := Lib.hid hstep
                    clear hstep hv hT hpq HJ
                    go_wp2_with fail
                    go_region_held3 (fun w' => w'.cell? ⟨w.heap.size, 0, none⟩ = some (.slice a0 os.length c0) ∧ w'.cell? ⟨b, off + i, none⟩ = some (.int .i64 yi) ∧ w'.cell? ⟨b, off + k, none⟩ = some (.int .i64 yk) ∧ w'.cell? ⟨b, off + j, none⟩ = some (.int .i64 yj)) (exact ⟨by assumption, by assumption, by assumption, by assumption⟩) (first
                      | (go_at_call 224; refine (C2.out _ h5).mono ?_; rintro e w7 ⟨rfl, b7⟩; have y1 := (b7.cell (p := ⟨b, off + i, none⟩) (Nat.lt_of_lt_of_le zb b6.size)).trans p1; have y2 := (b7.cell (p := ⟨b, off + k, none⟩) (Nat.lt_of_lt_of_le zb b6.size)).trans p2; have y3 := (b7.cell (p := ⟨b, off + j, none⟩) (Nat.lt_of_lt_of_le zb b6.size)).trans p3; have y4 := (b7.cell (p := ⟨w.heap.size, 0, none⟩) (Nat.lt_of_lt_of_le zw b6.size)).trans p4)
                      | (go_at_call 224; refine (C1.out _ h4.drew).mono ?_; rintro e w6 ⟨rfl, b6⟩; have h5 := h4.below (below_undrew b6) (Nat.le_refl _); have p1 := (b6.cell (p := ⟨b, off + i, none⟩) zb).trans q1; have p2 := (b6.cell (p := ⟨b, off + k, none⟩) zb).trans q2; have p3 := (b6.cell (p := ⟨b, off + j, none⟩) zb).trans q3; have p4 := (b6.cell (p := ⟨w.heap.size, 0, none⟩) zw).trans q4))
                    go_wp2_with fail
                    go_roundw
                    · exact ⟨j + 1, c, by omega, by go_num, by go_num, HST, by omega, nx hbel (nx (below_undrew b6) b7)⟩
                    · simp only [intOf]; omega
                · obtain rfl : j = l.length := by omega
                  have HN := Lib.hid (show c = A + ns (fun k => triF os l i k) (k + 1) by rw [HJ.out, HBB.out, Nat.add_assoc]; rfl)
                  clear HJ HBB
                  go_wp2_with fail
                  go_roundw
                  · exact ⟨k + 1, c, by omega, by go_num, rfl, HN, by omega, hbel⟩
                  · simp only [intOf]; omega
            · obtain rfl : k = i := by omega
              have HN := Lib.hid (show c = ns (fun i => ns (fun k => triF os l i k) i) (k + 1) by rw [HK.out, HAA.out]; rfl)
              clear HK HAA
              go_wp2_with fail
              go_roundw
              · exact ⟨k + 1, c, by omega, by go_num, rfl, HN, by omega, hbel⟩
              · simp only [intOf]; omega
      · obtain rfl : i = l.length := by omega
        have e : c = r := by rw [← HR.out]; exact HI.out
        subst e
        clear HI HM HCS HR
        go_wp2_with fail
        go_ret
        exact ⟨rfl, nx B2 hbel⟩
end Go.Proofs.Ytbidkjhgodkamaa
