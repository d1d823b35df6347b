/-
Contract of the program's TriplesIn: the same number, the pairs taken in another order. Conditions: lengths at most 2000000.
-/
import Derived.Test.YtbidkjhgodkamaaTri
namespace Go.Proofs.Ytbidkjhgodkamaa
open Go.RowKit Go.ChangeShapes

set_option maxRecDepth 20000 in
set_option maxHeartbeats 3200000 in
theorem tri_impl (a0 : Option Addr) (c0 : Nat) (os : List Int) (a : Int) (w : World) (h0 : Ints w a0 c0 os) (hlo : os.length ≤ 2000000) :
    Calls Try.prog 121 #[.agg #[.slice a0 os.length c0], .int .i64 a] w fun e w' => e = .returned (.int .i64 (triV os a)) ∧ Below w.heap.size w w' := by
  have hb0 := (Below.refl w.heap.size w).alloc (Nat.le_refl _) (.cells #[.slice a0 os.length c0] 26)
  have h1 := h0.below hb0 (Nat.le_refl _)
  have C := Lib.hid (fun w h => isSet_impl a0 c0 os a w h hlo)
  cases hs : setB os a with
  | false =>
    have e : triV os a = -1 := by simp [triV, hs]
    rw [e]
    rw [hs] at C
    clear hs e
    go_enter Try.func121, Try.ntmps121
    go_wp2_with fail
    refine (C.out _ h1).mono ?_; rintro e w1 ⟨rfl, b1⟩
    go_wp2_with fail
    go_ret
    exact ⟨rfl, nx hb0 b1⟩
  | true =>
    obtain ⟨hg0, m, rfl, hm⟩ := setB_parts hs
    have hT := setT_bd hg0
    have e : triV os (m : Int) = (triS os (mems m) : Int) := by simp [triV, hs]
    rw [e]
    rw [hs] at C
    have CL := Lib.hid (members_any m (by omega))
    have HM := Lib.hid (fun x (hx : x ∈ mems m) => mems_bd hx)
    have hlen := mems_len m
    obtain ⟨l, hl⟩ : ∃ l, l = mems m := ⟨_, rfl⟩
    rw [← hl] at CL HM hlen ⊢
    have CA := Lib.hid (fun x y w h hx hy => add_any a0 c0 os x y w h hg0 hx hy)
    clear hl hs e hT hm hg0
    rw [← triI_eq]
    obtain ⟨r, hr⟩ : ∃ r, triI os l = r := ⟨_, rfl⟩
    rw [hr]
    have HR := Lib.hid hr
    clear hr
    go_enter Try.func121, Try.ntmps121
    go_wp2_with fail
    refine (C.out _ h1).mono ?_; rintro e w1 ⟨rfl, b1⟩
    have hbox := box_cell b1 (by simp)
    have h2 := h1.below b1 (Nat.le_refl _)
    have B1 := nx hb0 b1
    have z1 : w.heap.size < w1.heap.size := by have := b1.size; simp at this; omega
    go_wp2_with fail
    refine (CL.out _).mono ?_; rintro e w2 ⟨a1, c1, rfl, o1, b2⟩
    have hbox2 := (b2.cell (p := ⟨w.heap.size, 0, none⟩) z1).trans hbox
    have h3 := h2.below b2 (Nat.le_refl _)
    have B2 := nx B1 b2
    have z2 : w.heap.size < w2.heap.size := Nat.lt_of_lt_of_le z1 b2.size
    obtain ⟨hcap, -, -, -, hcs⟩ := o1.ints
    have HCS := Lib.hid hcs
    clear hcs b1 b2 hb0 h0 h1 h2 hbox B1 z1
    go_wp2_with fail
    go_loopw [5, 21] (fun vc vi wr => ∃ (i c : Nat), i ≤ l.length ∧ vi = .int .i64 i ∧ vc = .int .i64 c ∧ Hid (c = ns (fun i => ns (fun q => triF os l i (i + 1 + q)) (l.length - (i + 1))) i) ∧ c ≤ 4096 * i ∧ Below w2.heap.size w2 wr) (fun _ i _ => l.length - (intOf i).toNat)
    case atStart => exact ⟨0, 0, by omega, rfl, rfl, Lib.hid (by simp [ns]), by omega, Below.refl _ _⟩
    case round =>
      obtain ⟨i, c, hi, rfl, rfl, HI, hci, hbel⟩ := hrel
      by_cases hlt : i < l.length
      · rcases HCS.out with hcs | ⟨b, off, rfl, hbB, hcell⟩
        · subst hcs; simp at hlt
        · obtain ⟨ei, ni⟩ := elt_at hlt HM.out
          have HCI := Lib.hid (hcell i hlt)
          rw [ei] at HCI
          have HCA := Lib.hid hcell
          obtain ⟨A, hA⟩ : ∃ A, A = ns (fun i => ns (fun q => triF os l i (i + 1 + q)) (l.length - (i + 1))) i := ⟨_, rfl⟩
          rw [← hA] at HI
          have HAA := Lib.hid hA
          clear hcell ei hA HCS
          have c5 := (hbel.cell (p := ⟨b, off + i, none⟩) hbB).trans HCI.out
          by_cases hci1 : i + 1 < c1
          · go_wp2_with fail
            go_loopw [5, 31] (fun vc vk wq => ∃ (k c : Nat), k ≤ l.length - (i + 1) ∧ vk = .int .i64 k ∧ vc = .int .i64 c ∧ Hid (c = A + ns (fun q => triF os l i (i + 1 + q)) k) ∧ c ≤ 4096 * i + 64 * k ∧ Below w2.heap.size w2 wq) (fun _ k _ => l.length - (i + 1) - (intOf k).toNat)
            case atStart => exact ⟨0, c, by omega, rfl, rfl, Lib.hid (by simp [ns]; exact HI.out), by omega, hbel⟩
            case round =>
              clear hci hbel HI c5
              obtain ⟨k, c, hk, rfl, rfl, HK, hck, hbel⟩ := hrel
              by_cases hlk : k < l.length - (i + 1)
              · obtain ⟨ek, nk⟩ := elt_at (show i + 1 + k < l.length by omega) HM.out
                have HCK := Lib.hid (HCA.out (i + 1 + k) (by omega))
                rw [ek] at HCK
                have c6 : wr.cell? ⟨b, off + (i + 1) + k, none⟩ = some (.int .i64 (elt l (i + 1 + k))) := by rw [Nat.add_assoc off]; exact (hbel.cell (p := ⟨b, off + (i + 1 + k), none⟩) hbB).trans HCK.out
                obtain ⟨B, hB⟩ : ∃ B, B = A + ns (fun q => triF os l i (i + 1 + q)) k := ⟨_, rfl⟩
                rw [← hB] at HK
                have HBB := Lib.hid hB
                clear ek hB HCK
                go_wp2_with fail
                go_loopw [5, 37] (fun vc vj wq => ∃ (j c : Nat), j ≤ l.length ∧ vj = .int .i64 j ∧ vc = .int .i64 c ∧ Hid (c = B + ns (triT os l i (i + 1 + k)) j) ∧ c ≤ 4096 * i + 64 * k + j ∧ Below w2.heap.size w2 wq) (fun _ j _ => l.length - (intOf j).toNat)
                case atStart => exact ⟨0, c, by omega, rfl, rfl, Lib.hid (by simp [ns]; exact HK.out), by omega, hbel⟩
                case round =>
                  clear hck hbel HK c6
                  obtain ⟨j, c, hj, rfl, rfl, HJ, hcj, hbel⟩ := hrel
                  by_cases hlj : j < l.length
                  · obtain ⟨ej, nj⟩ := elt_at hlj HM.out
                    have HCJ := Lib.hid (HCA.out j hlj)
                    rw [ej] at HCJ
                    have hstep : c + triT os l i (i + 1 + k) j = B + ns (triT os l i (i + 1 + k)) (j + 1) := by rw [HJ.out]; simp only [ns]; omega
                    have hT : triT os l i (i + 1 + k) j = nat1 (gadd os (elt l j) (elt l j) == gadd os (elt l i) (elt l (i + 1 + k))) := rfl
                    have C1 := Lib.hid (fun w h => CA.out (elt l i) (elt l (i + 1 + k)) w h (by omega) (by omega))
                    have C2 := Lib.hid (fun w h => CA.out (elt l j) (elt l j) w h (by omega) (by omega))
                    obtain ⟨P, hP⟩ : ∃ P, P = gadd os (elt l j) (elt l j) := ⟨_, rfl⟩
                    obtain ⟨Q, hQ⟩ : ∃ Q, Q = gadd os (elt l i) (elt l (i + 1 + k)) := ⟨_, rfl⟩
                    rw [← hP, ← hQ] at hT
                    rw [← hQ] at C1
                    rw [← hP] at C2
                    have q3 := (hbel.cell (p := ⟨b, off + j, none⟩) hbB).trans HCJ.out
                    have q4 := (hbel.cell (p := ⟨w.heap.size, 0, none⟩) z2).trans hbox2
                    have h4 := h3.below hbel (Nat.le_refl _)
                    have zw : w.heap.size < wr.heap.size := Nat.lt_of_lt_of_le z2 hbel.size
                    clear hP hQ ej hbox2 h3
                    by_cases hpq : P = Q
                    · have hbq : ((Q : Int) == (P : Int)) = true := by rw [hpq]; simp
                      have hv : triT os l i (i + 1 + k) j = 1 := by rw [hT, hpq]; simp [nat1]
                      rw [hv] at hstep
                      have HST := Lib.hid hstep
                      clear hstep hv hT hpq HJ
                      go_wp2_with fail
                      go_region_held3 (fun w' => w'.cell? ⟨w.heap.size, 0, none⟩ = some (.slice a0 os.length c0)) (assumption) (first
                      | (go_at_call 194; refine (C2.out _ h5).mono ?_; rintro e w7 ⟨rfl, b7⟩; have y4 := (b7.cell (p := ⟨w.heap.size, 0, none⟩) (Nat.lt_of_lt_of_le zw b6.size)).trans p4)
                      | (go_at_call 194; refine (C1.out _ h4.drew).mono ?_; rintro e w6 ⟨rfl, b6⟩; have h5 := h4.below (below_undrew b6) (Nat.le_refl _); have p4 := (b6.cell (p := ⟨w.heap.size, 0, none⟩) zw).trans q4))
                      go_wp2_with fail
                      go_roundw
                      · exact ⟨j + 1, c + 1, by omega, by go_num, by go_num, HST, by omega, nx hbel (nx (below_undrew b6) b7)⟩
                      · simp only [intOf]; omega
                    · have hbq : ((Q : Int) == (P : Int)) = false := by rw [nat_beq]; simpa using fun h => hpq h.symm
                      have hv : triT os l i (i + 1 + k) j = 0 := by rw [hT]; simp [nat1, hpq]
                      rw [hv] at hstep
                      have HST := Lib.hid hstep
                      clear hstep hv hT hpq HJ
                      go_wp2_with fail
                      go_region_held3 (fun w' => w'.cell? ⟨w.heap.size, 0, none⟩ = some (.slice a0 os.length c0)) (assumption) (first
                      | (go_at_call 194; refine (C2.out _ h5).mono ?_; rintro e w7 ⟨rfl, b7⟩; have y4 := (b7.cell (p := ⟨w.heap.size, 0, none⟩) (Nat.lt_of_lt_of_le zw b6.size)).trans p4)
                      | (go_at_call 194; refine (C1.out _ h4.drew).mono ?_; rintro e w6 ⟨rfl, b6⟩; have h5 := h4.below (below_undrew b6) (Nat.le_refl _); have p4 := (b6.cell (p := ⟨w.heap.size, 0, none⟩) zw).trans q4))
                      go_wp2_with fail
                      go_roundw
                      · exact ⟨j + 1, c, by omega, by go_num, by go_num, HST, by omega, nx hbel (nx (below_undrew b6) b7)⟩
                      · simp only [intOf]; omega
                  · obtain rfl : j = l.length := by omega
                    have HN := Lib.hid (show c = A + ns (fun q => triF os l i (i + 1 + q)) (k + 1) by rw [HJ.out, HBB.out, Nat.add_assoc]; rfl)
                    clear HJ HBB
                    go_wp2_with fail
                    go_roundw
                    · exact ⟨k + 1, c, by omega, by go_num, rfl, HN, by omega, hbel⟩
                    · simp only [intOf]; omega
              · obtain rfl : k = l.length - (i + 1) := by omega
                have HN := Lib.hid (show c = ns (fun i => ns (fun q => triF os l i (i + 1 + q)) (l.length - (i + 1))) (i + 1) by rw [HK.out, HAA.out]; rfl)
                clear HK HAA
                go_wp2_with fail
                go_roundw
                · exact ⟨i + 1, c, by omega, by go_num, rfl, HN, by omega, hbel⟩
                · simp only [intOf]; omega
          · obtain rfl : c1 = i + 1 := by omega
            have hn0 : l.length - (i + 1) = 0 := by omega
            have HN := Lib.hid (show c = ns (fun i => ns (fun q => triF os l i (i + 1 + q)) (l.length - (i + 1))) (i + 1) by simp only [ns]; rw [hn0, HI.out, HAA.out]; rfl)
            clear HI HAA
            go_wp2_with fail
            refine wp_loop_once ?_
            go_wp2_with fail
            go_roundw
            · exact ⟨i + 1, c, by omega, by go_num, rfl, HN, by omega, hbel⟩
            · simp only [intOf]; omega
      · obtain rfl : i = l.length := by omega
        have e : c = r := by rw [← HR.out]; exact HI.out
        subst e
        clear HI HM HCS HR
        go_wp2_with fail
        go_ret
        exact ⟨rfl, nx B2 hbel⟩
end Go.Proofs.Ytbidkjhgodkamaa
