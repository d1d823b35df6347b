/-
Contracts of the reference's l22Sidon and IsSidon. Conditions: lengths at most 2000000, sets of a group.
-/
import Derived.Test.YtbidkjhgodkamaaSid
import Derived.Deep.RegionWith
import Derived.Deep.QuietTactic
import Derived.BigQuiet
namespace Go.Proofs.Ytbidkjhgodkamaa
open Go.RowKit Go.ChangeShapes
set_option linter.unusedSimpArgs false

/-- What the reference asks of one choice of places. -/
def SidQ (os l : List Int) (i j k m : Nat) : Prop := i ≤ j → j < l.length → k ≤ i → k ≤ m → m < l.length → (k ≠ i ∨ m ≠ j) → sidS os l i j ≠ sidS os l k m
theorem sidQ_of {os l : List Int} (h : SidP os l) (i j k m : Nat) : SidQ os l i j k m := by
  intro h1 h2 h3 h4 h5 h6 he
  by_cases hk : k < i
  · exact h i j h1 h2 k m ⟨h4, h5, .inl hk⟩ he.symm
  · obtain rfl : k = i := by omega
    rcases Nat.lt_or_ge m j with hm | hm
    · exact h k j h1 h2 k m ⟨h4, h5, .inr ⟨rfl, hm⟩⟩ he.symm
    · exact h k m h4 h5 k j ⟨h1, h2, .inr ⟨rfl, by omega⟩⟩ he
theorem sidP_of {os l : List Int} (h : ∀ i j k m, i < l.length → SidQ os l i j k m) : SidP os l := fun i j h1 h2 k m hb he => by
  obtain ⟨b1, b2, b3⟩ := hb
  exact h i j k m (by omega) h1 h2 (by omega) b1 b2 (by omega) he.symm

open Classical in
set_option maxRecDepth 20000 in
set_option maxHeartbeats 12800000 in
theorem l22Sidon_any (a0 : Option Addr) (c0 : Nat) (os : List Int) (a : Nat) (w : World) (h0 : Ints w a0 c0 os) (hg0 : grpB os = true) (ha : a < 1099511627776) :
    Calls Try.prog 195 #[.agg #[.slice a0 os.length c0], .int .i64 a] w fun e w' => e = .returned (.bool (decide (SidP os (mems a)))) ∧ Below w.heap.size w w' := by
  have hb0 := (Below.refl w.heap.size w).alloc (Nat.le_refl _) (.cells #[.slice a0 os.length c0] 26)
  have h1 := h0.below hb0 (Nat.le_refl _)
  have CL := Lib.hid (l3List_any a ha)
  have HM := Lib.hid (fun x (hx : x ∈ mems a) => mems_bd hx)
  have hlen := mems_len a
  obtain ⟨l, hl⟩ : ∃ l, l = mems a := ⟨_, rfl⟩
  rw [← hl] at CL HM hlen ⊢
  have CA := Lib.hid (fun x y w h hx hy => l2Add_any a0 c0 os x y w h hg0 hx hy)
  have HGL := Lib.hid (fun x y => gadd_lt24 hg0 x y)
  have hr : ∃ r, decide (SidP os l) = r ∧ ((SidP os l ∧ r = true) ∨ (¬ SidP os l ∧ r = false)) := by
    by_cases hp : SidP os l
    · exact ⟨true, decide_eq_true hp, .inl ⟨hp, rfl⟩⟩
    · exact ⟨false, decide_eq_false hp, .inr ⟨hp, rfl⟩⟩
  obtain ⟨r, hr0, hr⟩ := hr
  rw [hr0]
  have HR := Lib.hid hr
  clear hl hg0 hr hr0
  go_enter Try.func195, Try.ntmps195
  go_wp2_with fail
  refine (CL.out _).mono ?_; rintro e w2 ⟨a1, c1, rfl, o1, b2⟩
  have hbox2 := box_cell b2 (by simp)
  have h3 := h1.below b2 (Nat.le_refl _)
  have B2 := nx hb0 b2
  have z2 : w.heap.size < w2.heap.size := by have := b2.size; simp at this; omega
  obtain ⟨-, -, -, -, hcs⟩ := o1.ints
  have HCS := Lib.hid hcs
  clear hcs b2 hb0 h0 h1
  go_wp2_with fail
  go_loopw [6] (fun vi wr => ∃ (i : Nat), i ≤ l.length ∧ vi = .int .i64 i ∧ Hid (∀ i' j k m, i' < i → SidQ os l i' j k m) ∧ Below w2.heap.size w2 wr) (fun i _ => l.length - (intOf i).toNat)
  case atStart => exact ⟨0, by omega, rfl, Lib.hid (fun _ _ _ _ h => by omega), Below.refl _ _⟩
  case round =>
    obtain ⟨i, hi, rfl, HI, hbel⟩ := hrel
    by_cases hlt : i < l.length
    · rcases HCS.out with hcs | ⟨b, off, rfl, hbB, hcell⟩
      · subst hcs; simp at hlt
      · have HCA := Lib.hid hcell
        clear hcell HCS
        go_wp2_with fail
        go_loopw [7] (fun vj wq => ∃ (j : Nat), i ≤ j ∧ j ≤ l.length ∧ vj = .int .i64 j ∧ Hid (∀ j' k m, j' < j → SidQ os l i j' k m) ∧ Below w2.heap.size w2 wq) (fun j _ => l.length - (intOf j).toNat)
        case atStart => exact ⟨i, by omega, by omega, rfl, Lib.hid (fun _ _ _ h h1 => by omega), hbel⟩
        case round =>
          clear hbel
          obtain ⟨j, hij, hj, rfl, HJ, hbel⟩ := hrel
          by_cases hlj : j < l.length
          · go_wp2_with fail
            go_loopw [8] (fun vk wq => ∃ (k : Nat), k ≤ i + 1 ∧ vk = .int .i64 k ∧ Hid (∀ k' m, k' < k → SidQ os l i j k' m) ∧ Below w2.heap.size w2 wq) (fun k _ => i + 1 - (intOf k).toNat)
            case atStart => exact ⟨0, by omega, rfl, Lib.hid (fun _ _ h => by omega), hbel⟩
            case round =>
              clear hbel
              obtain ⟨k, hk, rfl, HK, hbel⟩ := hrel
              by_cases hki : k ≤ i
              · go_wp2_with fail
                go_loopw [9] (fun vm wq => ∃ (m : Nat), k ≤ m ∧ m ≤ l.length ∧ vm = .int .i64 m ∧ Hid (∀ m', m' < m → SidQ os l i j k m') ∧ Below w2.heap.size w2 wq) (fun m _ => l.length - (intOf m).toNat)
                case atStart => exact ⟨k, by omega, by omega, rfl, Lib.hid (fun _ h _ _ _ h1 => by omega), hbel⟩
                case round =>
                  clear hbel
                  obtain ⟨m, hkm, hm, rfl, HMM, hbel⟩ := hrel
                  by_cases hlm : m < l.length
                  · by_cases hk2 : k = i
                    · have f1 : ((k : Int) != (i : Int)) = false := by simp; omega
                      by_cases hm2 : m = j
                      · have f2 : ((m : Int) != (j : Int)) = false := by simp; omega
                        have HN := Lib.hid (show ∀ m', m' < m + 1 → SidQ os l i j k m' from fun m' hm' => by
                          rcases Nat.lt_or_ge m' m with h' | h'
                          · exact HMM.out m' h'
                          · obtain rfl : m' = m := by omega
                            intro g1 g2 g3 g4 g5 g6
                            omega)
                        clear HMM hk2 hm2
                        go_wp2_with fail
                        go_quiet (fail)
                        go_wp2_with fail
                        go_roundw
                        · exact ⟨m + 1, by omega, by omega, by go_num, HN, below_drewN hbel _⟩
                        · simp only [intOf]; omega
                      · have f2 : ((m : Int) != (j : Int)) = true := by simp; omega
                        obtain ⟨ei, ni⟩ := elt_at hlt HM.out
                        obtain ⟨ej, nj⟩ := elt_at hlj HM.out
                        obtain ⟨ek, nk⟩ := elt_at (show k < l.length by omega) HM.out
                        obtain ⟨em, nm⟩ := elt_at hlm HM.out
                        have di := HCA.out i (by omega)
                        rw [ei] at di
                        have dj := HCA.out j (by omega)
                        rw [ej] at dj
                        have dk := HCA.out k (by omega)
                        rw [ek] at dk
                        have dm := HCA.out m (by omega)
                        rw [em] at dm
                        have q0 := (hbel.cell (p := ⟨w.heap.size, 0, none⟩) z2).trans hbox2
                        have q1 := (hbel.cell (p := ⟨b, off + i, none⟩) hbB).trans di
                        have q2 := (hbel.cell (p := ⟨b, off + j, none⟩) hbB).trans dj
                        have q3 := (hbel.cell (p := ⟨b, off + k, none⟩) hbB).trans dk
                        have q4 := (hbel.cell (p := ⟨b, off + m, none⟩) hbB).trans dm
                        have h4 := h3.below hbel (Nat.le_refl _)
                        have C1 := Lib.hid (fun w h => CA.out (elt l i) (elt l j) w h (by omega) (by omega))
                        have C2 := Lib.hid (fun w h => CA.out (elt l k) (elt l m) w h (by omega) (by omega))
                        have HPQ : Hid (SidQ os l i j k m → (k ≠ i ∨ m ≠ j) → gadd os (elt l i) (elt l j) ≠ gadd os (elt l k) (elt l m)) := Lib.hid (fun h h' => by
                          have h2 := h hij hlj (by omega) hkm hlm h'
                          exact h2)
                        have HQP : Hid ((gadd os (elt l i) (elt l j) ≠ gadd os (elt l k) (elt l m) ∨ ¬ (k ≠ i ∨ m ≠ j)) → ∀ m', m' < m + 1 → SidQ os l i j k m') := Lib.hid (fun h m' hm' => by
                          rcases Nat.lt_or_ge m' m with h' | h'
                          · exact HMM.out m' h'
                          · obtain rfl : m' = m := by omega
                            intro g1 g2 g3 g4 g5 g6
                            rcases h with h | h
                            · exact h
                            · exact absurd g6 h)
                        obtain ⟨P, hP⟩ : ∃ P, P = gadd os (elt l i) (elt l j) := ⟨_, rfl⟩
                        obtain ⟨Q, hQ⟩ : ∃ Q, Q = gadd os (elt l k) (elt l m) := ⟨_, rfl⟩
                        rw [← hP, ← hQ] at HPQ HQP
                        rw [← hP] at C1
                        rw [← hQ] at C2
                        obtain ⟨yi, hyi⟩ : ∃ y, y = elt l i := ⟨_, rfl⟩
                        obtain ⟨yj, hyj⟩ : ∃ y, y = elt l j := ⟨_, rfl⟩
                        obtain ⟨yk, hyk⟩ : ∃ y, y = elt l k := ⟨_, rfl⟩
                        obtain ⟨ym, hym⟩ : ∃ y, y = elt l m := ⟨_, rfl⟩
                        rw [← hyi] at q1 C1
                        rw [← hyj] at q2 C1
                        rw [← hyk] at q3 C2
                        rw [← hym] at q4 C2
                        have zb : b < wr.heap.size := Nat.lt_of_lt_of_le hbB hbel.size
                        have zw : w.heap.size < wr.heap.size := Nat.lt_of_lt_of_le z2 hbel.size
                        have li : (i : Int) < l.length := by omega
                        have lj : (j : Int) < l.length := by omega
                        have lk : (k : Int) < l.length := by omega
                        have lm : (m : Int) < l.length := by omega
                        clear hP hQ hyi ei di hyj ej dj hyk ek dk hym em dm hbox2 h3 HMM HI HJ HK HCA CA HM HGL
                        have hkm2 : k ≠ i ∨ m ≠ j := .inr hm2
                        clear hk2
                        by_cases hpq : P = Q
                        · have hbq : ((P : Int) == (Q : Int)) = true := by rw [hpq]; simp
                          have hno : r = false := by
                            rcases HR.out with ⟨hp, _⟩ | ⟨_, e⟩
                            · exact absurd hpq (HPQ.out (sidQ_of hp i j k m) hkm2)
                            · exact e
                          subst hno
                          clear HPQ HQP HR hpq hkm2
                          go_wp2_with fail
                          refine wp_region_held_drew (S := fun w' => w'.cell? ⟨w.heap.size, 0, none⟩ = some (.slice a0 os.length c0) ∧ w'.cell? ⟨b, off + i, none⟩ = some (.int .i64 yi) ∧ w'.cell? ⟨b, off + j, none⟩ = some (.int .i64 yj) ∧ w'.cell? ⟨b, off + k, none⟩ = some (.int .i64 yk) ∧ w'.cell? ⟨b, off + m, none⟩ = some (.int .i64 ym)) (by kernel_rfl) ⟨q0, q1, q2, q3, q4⟩ (fun hHeld => ?_)
                          refine wpAnyH_take (i := 0) (v := ?_) rfl (by kernel_rfl) (by kernel_rfl) (by kernel_rfl) (fun _ _ _ h => h) (Or.inl ⟨by first | kernel_rfl | rfl, ?_⟩) (by assumption) ?_
                          rotate_left
                          · intro w hSw
                            (try dsimp only at hSw)
                            (try go_split_ands)
                            go_simp
                            try with_reducible rfl
                          (try simp only [Act.put, List.setIfInBounds_toArray, List.set_cons_zero, List.set_cons_succ])
                          refine wpAnyH_take (i := 1) (v := ?_) rfl (by kernel_rfl) (by kernel_rfl) (by kernel_rfl) (fun _ _ _ h => h) (Or.inl ⟨by first | kernel_rfl | rfl, ?_⟩) (by assumption) ?_
                          rotate_left
                          · intro w hSw
                            (try dsimp only at hSw)
                            (try go_split_ands)
                            go_simp
                            try with_reducible rfl
                          (try simp only [Act.put, List.setIfInBounds_toArray, List.set_cons_zero, List.set_cons_succ])
                          refine wpAnyH_take (i := 2) (v := ?_) rfl (by kernel_rfl) (by kernel_rfl) (by kernel_rfl) (fun _ _ _ h => h) (Or.inl ⟨by first | kernel_rfl | rfl, ?_⟩) (by assumption) ?_
                          rotate_left
                          · intro w hSw
                            (try dsimp only at hSw)
                            (try go_split_ands)
                            go_simp
                            try with_reducible rfl
                          (try simp only [Act.put, List.setIfInBounds_toArray, List.set_cons_zero, List.set_cons_succ])
                          refine wpAnyH_take (i := 3) (v := ?_) rfl (by kernel_rfl) (by kernel_rfl) (by kernel_rfl) (fun _ _ _ h => h) (Or.inl ⟨by first | kernel_rfl | rfl, ?_⟩) (by assumption) ?_
                          rotate_left
                          · intro w hSw
                            (try dsimp only at hSw)
                            (try go_split_ands)
                            go_simp
                            try with_reducible rfl
                          (try simp only [Act.put, List.setIfInBounds_toArray, List.set_cons_zero, List.set_cons_succ])
                          refine wpAnyH_take (i := 4) (v := ?_) rfl (by kernel_rfl) (by kernel_rfl) (by kernel_rfl) (fun _ _ _ h => h) (Or.inl ⟨by first | kernel_rfl | rfl, ?_⟩) (by assumption) ?_
                          rotate_left
                          · intro w hSw
                            (try dsimp only at hSw)
                            (try go_split_ands)
                            go_simp
                            try with_reducible rfl
                          (try simp only [Act.put, List.setIfInBounds_toArray, List.set_cons_zero, List.set_cons_succ])
                          refine wpAnyH_take (i := 5) (v := ?_) rfl (by kernel_rfl) (by kernel_rfl) (by kernel_rfl) (fun _ _ _ h => h) (Or.inl ⟨by first | kernel_rfl | rfl, ?_⟩) (by assumption) ?_
                          rotate_left
                          · intro w hSw
                            (try dsimp only at hSw)
                            (try go_split_ands)
                            go_simp
                            try with_reducible rfl
                          (try simp only [Act.put, List.setIfInBounds_toArray, List.set_cons_zero, List.set_cons_succ])
                          refine wpAnyH_take (i := 6) (v := ?_) rfl (by kernel_rfl) (by kernel_rfl) (by kernel_rfl) (fun _ _ _ h => h) (Or.inl ⟨by first | kernel_rfl | rfl, ?_⟩) (by assumption) ?_
                          rotate_left
                          · intro w hSw
                            (try dsimp only at hSw)
                            (try go_split_ands)
                            go_simp
                            try with_reducible rfl
                          (try simp only [Act.put, List.setIfInBounds_toArray, List.set_cons_zero, List.set_cons_succ])
                          refine wpAnyH_take (i := 7) (v := ?_) rfl (by kernel_rfl) (by kernel_rfl) (by kernel_rfl) (fun _ _ _ h => h) (Or.inl ⟨by first | kernel_rfl | rfl, ?_⟩) (by assumption) ?_
                          rotate_left
                          · intro w hSw
                            (try dsimp only at hSw)
                            (try go_split_ands)
                            go_simp
                            try with_reducible rfl
                          (try simp only [Act.put, List.setIfInBounds_toArray, List.set_cons_zero, List.set_cons_succ])
                          refine wpAnyH_take (i := 8) (v := ?_) rfl (by kernel_rfl) (by kernel_rfl) (by kernel_rfl) (fun _ _ _ h => h) (Or.inl ⟨by first | kernel_rfl | rfl, ?_⟩) (by assumption) ?_
                          rotate_left
                          · intro w hSw
                            (try dsimp only at hSw)
                            (try go_split_ands)
                            go_simp
                            try with_reducible rfl
                          (try simp only [Act.put, List.setIfInBounds_toArray, List.set_cons_zero, List.set_cons_succ])
                          refine wpAnyH_take (i := 9) (v := ?_) rfl (by kernel_rfl) (by kernel_rfl) (by kernel_rfl) (fun _ _ _ h => h) (Or.inl ⟨by first | kernel_rfl | rfl, ?_⟩) (by assumption) ?_
                          rotate_left
                          · intro w hSw
                            (try dsimp only at hSw)
                            (try go_split_ands)
                            go_simp
                            try with_reducible rfl
                          (try simp only [Act.put, List.setIfInBounds_toArray, List.set_cons_zero, List.set_cons_succ])
                          refine wpAnyH_take (i := 10) (v := ?_) rfl (by kernel_rfl) (by kernel_rfl) (by kernel_rfl) (fun _ _ _ h => h) (Or.inl ⟨by first | kernel_rfl | rfl, ?_⟩) (by assumption) ?_
                          rotate_left
                          · intro w hSw
                            (try dsimp only at hSw)
                            (try go_split_ands)
                            go_simp
                            try with_reducible rfl
                          (try simp only [Act.put, List.setIfInBounds_toArray, List.set_cons_zero, List.set_cons_succ])
                          refine wpAnyH_take (i := 11) (v := ?_) rfl (by kernel_rfl) (by kernel_rfl) (by kernel_rfl) (fun _ _ _ h => h) (Or.inl ⟨by first | kernel_rfl | rfl, ?_⟩) (by assumption) ?_
                          rotate_left
                          · intro w hSw
                            (try dsimp only at hSw)
                            (try go_split_ands)
                            go_simp
                            try with_reducible rfl
                          (try simp only [Act.put, List.setIfInBounds_toArray, List.set_cons_zero, List.set_cons_succ])
                          refine wpAnyH_take (i := 12) (v := ?_) rfl (by kernel_rfl) (by kernel_rfl) (by kernel_rfl) (fun _ _ _ h => h) (Or.inl ⟨by first | kernel_rfl | rfl, ?_⟩) (by assumption) ?_
                          rotate_left
                          · intro w hSw
                            (try dsimp only at hSw)
                            (try go_split_ands)
                            go_simp
                            try with_reducible rfl
                          (try simp only [Act.put, List.setIfInBounds_toArray, List.set_cons_zero, List.set_cons_succ])
                          refine wpAnyH_take (i := 13) (v := ?_) rfl (by kernel_rfl) (by kernel_rfl) (by kernel_rfl) (fun _ _ _ h => h) (Or.inl ⟨by first | kernel_rfl | rfl, ?_⟩) (by assumption) ?_
                          rotate_left
                          · intro w hSw
                            (try dsimp only at hSw)
                            (try go_split_ands)
                            go_simp
                            try with_reducible rfl
                          (try simp only [Act.put, List.setIfInBounds_toArray, List.set_cons_zero, List.set_cons_succ])
                          refine wpAnyH_take (i := 14) (v := ?_) rfl (by kernel_rfl) (by kernel_rfl) (by kernel_rfl) (fun _ _ _ h => h) (Or.inl ⟨by first | kernel_rfl | rfl, ?_⟩) (by assumption) ?_
                          rotate_left
                          · intro w hSw
                            (try dsimp only at hSw)
                            (try go_split_ands)
                            go_simp
                            try with_reducible rfl
                          (try simp only [Act.put, List.setIfInBounds_toArray, List.set_cons_zero, List.set_cons_succ])
                          refine wpAnyH_take (i := 15) (v := ?_) rfl (by kernel_rfl) (by kernel_rfl) (by kernel_rfl) (fun _ _ _ h => h) (Or.inl ⟨by first | kernel_rfl | rfl, ?_⟩) (by assumption) ?_
                          rotate_left
                          · intro w hSw
                            (try dsimp only at hSw)
                            (try go_split_ands)
                            go_simp
                            try with_reducible rfl
                          (try simp only [Act.put, List.setIfInBounds_toArray, List.set_cons_zero, List.set_cons_succ])
                          refine wpAnyH_take (i := 16) (v := ?_) rfl (by kernel_rfl) (by kernel_rfl) (by kernel_rfl) (fun _ _ _ h => h) (Or.inl ⟨by first | kernel_rfl | rfl, ?_⟩) (by assumption) ?_
                          rotate_left
                          · intro w hSw
                            (try dsimp only at hSw)
                            (try go_split_ands)
                            go_simp
                            try with_reducible rfl
                          (try simp only [Act.put, List.setIfInBounds_toArray, List.set_cons_zero, List.set_cons_succ])
                          refine wpAnyH_take (i := 17) (v := ?_) rfl (by kernel_rfl) (by kernel_rfl) (by kernel_rfl) (fun _ _ _ h => h) (Or.inl ⟨by first | kernel_rfl | rfl, ?_⟩) (by assumption) ?_
                          rotate_left
                          · intro w hSw
                            (try dsimp only at hSw)
                            (try go_split_ands)
                            go_simp
                            try with_reducible rfl
                          (try simp only [Act.put, List.setIfInBounds_toArray, List.set_cons_zero, List.set_cons_succ])
                          refine wpAnyH_take (i := 19) (v := ?_) rfl (by kernel_rfl) (by kernel_rfl) (by kernel_rfl) (fun _ _ _ h => h) (Or.inl ⟨by first | kernel_rfl | rfl, ?_⟩) (by assumption) ?_
                          rotate_left
                          · intro w hSw
                            (try dsimp only at hSw)
                            (try go_split_ands)
                            go_simp
                            try with_reducible rfl
                          (try simp only [Act.put, List.setIfInBounds_toArray, List.set_cons_zero, List.set_cons_succ])
                          refine wpAnyH_take (i := 20) (v := ?_) rfl (by kernel_rfl) (by kernel_rfl) (by kernel_rfl) (fun _ _ _ h => h) (Or.inl ⟨by first | kernel_rfl | rfl, ?_⟩) (by assumption) ?_
                          rotate_left
                          · intro w hSw
                            (try dsimp only at hSw)
                            (try go_split_ands)
                            go_simp
                            try with_reducible rfl
                          (try simp only [Act.put, List.setIfInBounds_toArray, List.set_cons_zero, List.set_cons_succ])
                          refine wpAnyH_take (i := 21) (v := ?_) rfl (by kernel_rfl) (by kernel_rfl) (by kernel_rfl) (fun _ _ _ h => h) (Or.inl ⟨by first | kernel_rfl | rfl, ?_⟩) (by assumption) ?_
                          rotate_left
                          · intro w hSw
                            (try dsimp only at hSw)
                            (try go_split_ands)
                            go_simp
                            try with_reducible rfl
                          (try simp only [Act.put, List.setIfInBounds_toArray, List.set_cons_zero, List.set_cons_succ])
                          refine wpAnyH_take (i := 22) (v := ?_) rfl (by kernel_rfl) (by kernel_rfl) (by kernel_rfl) (fun _ _ _ h => h) (Or.inl ⟨by first | kernel_rfl | rfl, ?_⟩) (by assumption) ?_
                          rotate_left
                          · intro w hSw
                            (try dsimp only at hSw)
                            (try go_split_ands)
                            go_simp
                            try with_reducible rfl
                          (try simp only [Act.put, List.setIfInBounds_toArray, List.set_cons_zero, List.set_cons_succ])
                          refine wpAnyH_take (i := 23) (v := ?_) rfl (by kernel_rfl) (by kernel_rfl) (by kernel_rfl) (fun _ _ _ h => h) (Or.inl ⟨by first | kernel_rfl | rfl, ?_⟩) (by assumption) ?_
                          rotate_left
                          · intro w hSw
                            (try dsimp only at hSw)
                            (try go_split_ands)
                            go_simp
                            try with_reducible rfl
                          (try simp only [Act.put, List.setIfInBounds_toArray, List.set_cons_zero, List.set_cons_succ])
                          refine wpAnyH_take (i := 24) (v := ?_) rfl (by kernel_rfl) (by kernel_rfl) (by kernel_rfl) (fun _ _ _ h => h) (Or.inl ⟨by first | kernel_rfl | rfl, ?_⟩) (by assumption) ?_
                          rotate_left
                          · intro w hSw
                            (try dsimp only at hSw)
                            (try go_split_ands)
                            go_simp
                            try with_reducible rfl
                          (try simp only [Act.put, List.setIfInBounds_toArray, List.set_cons_zero, List.set_cons_succ])
                          refine wpAnyH_take (i := 25) (v := ?_) rfl (by kernel_rfl) (by kernel_rfl) (by kernel_rfl) (fun _ _ _ h => h) (Or.inl ⟨by first | kernel_rfl | rfl, ?_⟩) (by assumption) ?_
                          rotate_left
                          · intro w hSw
                            (try dsimp only at hSw)
                            (try go_split_ands)
                            go_simp
                            try with_reducible rfl
                          (try simp only [Act.put, List.setIfInBounds_toArray, List.set_cons_zero, List.set_cons_succ])
                          refine wpAnyH_take (i := 26) (v := ?_) rfl (by kernel_rfl) (by kernel_rfl) (by kernel_rfl) (fun _ _ _ h => h) (Or.inl ⟨by first | kernel_rfl | rfl, ?_⟩) (by assumption) ?_
                          rotate_left
                          · intro w hSw
                            (try dsimp only at hSw)
                            (try go_split_ands)
                            go_simp
                            try with_reducible rfl
                          (try simp only [Act.put, List.setIfInBounds_toArray, List.set_cons_zero, List.set_cons_succ])
                          refine wpAnyH_take (i := 27) (v := ?_) rfl (by kernel_rfl) (by kernel_rfl) (by kernel_rfl) (fun _ _ _ h => h) (Or.inl ⟨by first | kernel_rfl | rfl, ?_⟩) (by assumption) ?_
                          rotate_left
                          · intro w hSw
                            (try dsimp only at hSw)
                            (try go_split_ands)
                            go_simp
                            try with_reducible rfl
                          (try simp only [Act.put, List.setIfInBounds_toArray, List.set_cons_zero, List.set_cons_succ])
                          refine wpAnyH_ready (rs := [18]) (by kernel_rfl) (by simp) ?_
                          refine AllReadyH.cons rfl (fun K hK => ?_) AllReadyH.nil
                          go_simp
                          go_at_call 224
                          refine (C1.out _ h4.drew).mono ?_
                          rintro e w6 ⟨rfl, b6⟩
                          have h5 := h4.below (below_undrew b6) (Nat.le_refl _)
                          have p0 := (b6.cell (p := ⟨w.heap.size, 0, none⟩) zw).trans q0
                          have p1 := (b6.cell (p := ⟨b, off + i, none⟩) zb).trans q1
                          have p2 := (b6.cell (p := ⟨b, off + j, none⟩) zb).trans q2
                          have p3 := (b6.cell (p := ⟨b, off + k, none⟩) zb).trans q3
                          have p4 := (b6.cell (p := ⟨b, off + m, none⟩) zb).trans q4
                          refine hK.out _ _ ⟨p0, p1, p2, p3, p4⟩ (fun hHeld => ?_)
                          clear hK K
                          (try simp only [Act.put, List.setIfInBounds_toArray, List.set_cons_zero, List.set_cons_succ])
                          refine wpAnyH_ready (rs := [28]) (by kernel_rfl) (by simp) ?_
                          refine AllReadyH.cons rfl (fun K hK => ?_) AllReadyH.nil
                          go_simp
                          go_at_call 224
                          refine (C2.out _ h5).mono ?_
                          rintro e w7 ⟨rfl, b7⟩
                          have y0 := (b7.cell (p := ⟨w.heap.size, 0, none⟩) (Nat.lt_of_lt_of_le zw b6.size)).trans p0
                          have y1 := (b7.cell (p := ⟨b, off + i, none⟩) (Nat.lt_of_lt_of_le zb b6.size)).trans p1
                          have y2 := (b7.cell (p := ⟨b, off + j, none⟩) (Nat.lt_of_lt_of_le zb b6.size)).trans p2
                          have y3 := (b7.cell (p := ⟨b, off + k, none⟩) (Nat.lt_of_lt_of_le zb b6.size)).trans p3
                          have y4 := (b7.cell (p := ⟨b, off + m, none⟩) (Nat.lt_of_lt_of_le zb b6.size)).trans p4
                          refine hK.out _ _ ⟨y0, y1, y2, y3, y4⟩ (fun hHeld => ?_)
                          clear hK K
                          (try simp only [Act.put, List.setIfInBounds_toArray, List.set_cons_zero, List.set_cons_succ])
                          refine wpAnyH_ready (rs := [29]) (by kernel_rfl) (by simp) ?_
                          refine AllReadyH.cons rfl (fun K hK => ?_) AllReadyH.nil
                          go_simp
                          refine hK.out _ _ (by assumption) (fun hHeld => ?_)
                          clear hK K
                          (try simp only [Act.put, List.setIfInBounds_toArray, List.set_cons_zero, List.set_cons_succ])
                          refine wpAnyH_ready (rs := [30]) (by kernel_rfl) (by simp) ?_
                          refine AllReadyH.cons rfl (fun K hK => ?_) AllReadyH.nil
                          go_simp
                          refine hK.out _ _ (by assumption) (fun hHeld => ?_)
                          clear hK K
                          (try simp only [Act.put, List.setIfInBounds_toArray, List.set_cons_zero, List.set_cons_succ])
                          refine wpAnyH_done (by kernel_rfl) ?_ _
                          go_wp2_with fail
                          go_ret
                          exact ⟨rfl, nx B2 (nx hbel (nx (below_undrew b6) b7))⟩
                        · have hbq : ((P : Int) == (Q : Int)) = false := by rw [nat_beq]; simpa using hpq
                          have HN := Lib.hid (HQP.out (.inl hpq))
                          clear HPQ HQP hpq hkm2
                          go_wp2_with fail
                          refine wp_region_held_drew (S := fun w' => w'.cell? ⟨w.heap.size, 0, none⟩ = some (.slice a0 os.length c0) ∧ w'.cell? ⟨b, off + i, none⟩ = some (.int .i64 yi) ∧ w'.cell? ⟨b, off + j, none⟩ = some (.int .i64 yj) ∧ w'.cell? ⟨b, off + k, none⟩ = some (.int .i64 yk) ∧ w'.cell? ⟨b, off + m, none⟩ = some (.int .i64 ym)) (by kernel_rfl) ⟨q0, q1, q2, q3, q4⟩ (fun hHeld => ?_)
                          refine wpAnyH_take (i := 0) (v := ?_) rfl (by kernel_rfl) (by kernel_rfl) (by kernel_rfl) (fun _ _ _ h => h) (Or.inl ⟨by first | kernel_rfl | rfl, ?_⟩) (by assumption) ?_
                          rotate_left
                          · intro w hSw
                            (try dsimp only at hSw)
                            (try go_split_ands)
                            go_simp
                            try with_reducible rfl
                          (try simp only [Act.put, List.setIfInBounds_toArray, List.set_cons_zero, List.set_cons_succ])
                          refine wpAnyH_take (i := 1) (v := ?_) rfl (by kernel_rfl) (by kernel_rfl) (by kernel_rfl) (fun _ _ _ h => h) (Or.inl ⟨by first | kernel_rfl | rfl, ?_⟩) (by assumption) ?_
                          rotate_left
                          · intro w hSw
                            (try dsimp only at hSw)
                            (try go_split_ands)
                            go_simp
                            try with_reducible rfl
                          (try simp only [Act.put, List.setIfInBounds_toArray, List.set_cons_zero, List.set_cons_succ])
                          refine wpAnyH_take (i := 2) (v := ?_) rfl (by kernel_rfl) (by kernel_rfl) (by kernel_rfl) (fun _ _ _ h => h) (Or.inl ⟨by first | kernel_rfl | rfl, ?_⟩) (by assumption) ?_
                          rotate_left
                          · intro w hSw
                            (try dsimp only at hSw)
                            (try go_split_ands)
                            go_simp
                            try with_reducible rfl
                          (try simp only [Act.put, List.setIfInBounds_toArray, List.set_cons_zero, List.set_cons_succ])
                          refine wpAnyH_take (i := 3) (v := ?_) rfl (by kernel_rfl) (by kernel_rfl) (by kernel_rfl) (fun _ _ _ h => h) (Or.inl ⟨by first | kernel_rfl | rfl, ?_⟩) (by assumption) ?_
                          rotate_left
                          · intro w hSw
                            (try dsimp only at hSw)
                            (try go_split_ands)
                            go_simp
                            try with_reducible rfl
                          (try simp only [Act.put, List.setIfInBounds_toArray, List.set_cons_zero, List.set_cons_succ])
                          refine wpAnyH_take (i := 4) (v := ?_) rfl (by kernel_rfl) (by kernel_rfl) (by kernel_rfl) (fun _ _ _ h => h) (Or.inl ⟨by first | kernel_rfl | rfl, ?_⟩) (by assumption) ?_
                          rotate_left
                          · intro w hSw
                            (try dsimp only at hSw)
                            (try go_split_ands)
                            go_simp
                            try with_reducible rfl
                          (try simp only [Act.put, List.setIfInBounds_toArray, List.set_cons_zero, List.set_cons_succ])
                          refine wpAnyH_take (i := 5) (v := ?_) rfl (by kernel_rfl) (by kernel_rfl) (by kernel_rfl) (fun _ _ _ h => h) (Or.inl ⟨by first | kernel_rfl | rfl, ?_⟩) (by assumption) ?_
                          rotate_left
                          · intro w hSw
                            (try dsimp only at hSw)
                            (try go_split_ands)
                            go_simp
                            try with_reducible rfl
                          (try simp only [Act.put, List.setIfInBounds_toArray, List.set_cons_zero, List.set_cons_succ])
                          refine wpAnyH_take (i := 6) (v := ?_) rfl (by kernel_rfl) (by kernel_rfl) (by kernel_rfl) (fun _ _ _ h => h) (Or.inl ⟨by first | kernel_rfl | rfl, ?_⟩) (by assumption) ?_
                          rotate_left
                          · intro w hSw
                            (try dsimp only at hSw)
                            (try go_split_ands)
                            go_simp
                            try with_reducible rfl
                          (try simp only [Act.put, List.setIfInBounds_toArray, List.set_cons_zero, List.set_cons_succ])
                          refine wpAnyH_take (i := 7) (v := ?_) rfl (by kernel_rfl) (by kernel_rfl) (by kernel_rfl) (fun _ _ _ h => h) (Or.inl ⟨by first | kernel_rfl | rfl, ?_⟩) (by assumption) ?_
                          rotate_left
                          · intro w hSw
                            (try dsimp only at hSw)
                            (try go_split_ands)
                            go_simp
                            try with_reducible rfl
                          (try simp only [Act.put, List.setIfInBounds_toArray, List.set_cons_zero, List.set_cons_succ])
                          refine wpAnyH_take (i := 8) (v := ?_) rfl (by kernel_rfl) (by kernel_rfl) (by kernel_rfl) (fun _ _ _ h => h) (Or.inl ⟨by first | kernel_rfl | rfl, ?_⟩) (by assumption) ?_
                          rotate_left
                          · intro w hSw
                            (try dsimp only at hSw)
                            (try go_split_ands)
                            go_simp
                            try with_reducible rfl
                          (try simp only [Act.put, List.setIfInBounds_toArray, List.set_cons_zero, List.set_cons_succ])
                          refine wpAnyH_take (i := 9) (v := ?_) rfl (by kernel_rfl) (by kernel_rfl) (by kernel_rfl) (fun _ _ _ h => h) (Or.inl ⟨by first | kernel_rfl | rfl, ?_⟩) (by assumption) ?_
                          rotate_left
                          · intro w hSw
                            (try dsimp only at hSw)
                            (try go_split_ands)
                            go_simp
                            try with_reducible rfl
                          (try simp only [Act.put, List.setIfInBounds_toArray, List.set_cons_zero, List.set_cons_succ])
                          refine wpAnyH_take (i := 10) (v := ?_) rfl (by kernel_rfl) (by kernel_rfl) (by kernel_rfl) (fun _ _ _ h => h) (Or.inl ⟨by first | kernel_rfl | rfl, ?_⟩) (by assumption) ?_
                          rotate_left
                          · intro w hSw
                            (try dsimp only at hSw)
                            (try go_split_ands)
                            go_simp
                            try with_reducible rfl
                          (try simp only [Act.put, List.setIfInBounds_toArray, List.set_cons_zero, List.set_cons_succ])
                          refine wpAnyH_take (i := 11) (v := ?_) rfl (by kernel_rfl) (by kernel_rfl) (by kernel_rfl) (fun _ _ _ h => h) (Or.inl ⟨by first | kernel_rfl | rfl, ?_⟩) (by assumption) ?_
                          rotate_left
                          · intro w hSw
                            (try dsimp only at hSw)
                            (try go_split_ands)
                            go_simp
                            try with_reducible rfl
                          (try simp only [Act.put, List.setIfInBounds_toArray, List.set_cons_zero, List.set_cons_succ])
                          refine wpAnyH_take (i := 12) (v := ?_) rfl (by kernel_rfl) (by kernel_rfl) (by kernel_rfl) (fun _ _ _ h => h) (Or.inl ⟨by first | kernel_rfl | rfl, ?_⟩) (by assumption) ?_
                          rotate_left
                          · intro w hSw
                            (try dsimp only at hSw)
                            (try go_split_ands)
                            go_simp
                            try with_reducible rfl
                          (try simp only [Act.put, List.setIfInBounds_toArray, List.set_cons_zero, List.set_cons_succ])
                          refine wpAnyH_take (i := 13) (v := ?_) rfl (by kernel_rfl) (by kernel_rfl) (by kernel_rfl) (fun _ _ _ h => h) (Or.inl ⟨by first | kernel_rfl | rfl, ?_⟩) (by assumption) ?_
                          rotate_left
                          · intro w hSw
                            (try dsimp only at hSw)
                            (try go_split_ands)
                            go_simp
                            try with_reducible rfl
                          (try simp only [Act.put, List.setIfInBounds_toArray, List.set_cons_zero, List.set_cons_succ])
                          refine wpAnyH_take (i := 14) (v := ?_) rfl (by kernel_rfl) (by kernel_rfl) (by kernel_rfl) (fun _ _ _ h => h) (Or.inl ⟨by first | kernel_rfl | rfl, ?_⟩) (by assumption) ?_
                          rotate_left
                          · intro w hSw
                            (try dsimp only at hSw)
                            (try go_split_ands)
                            go_simp
                            try with_reducible rfl
                          (try simp only [Act.put, List.setIfInBounds_toArray, List.set_cons_zero, List.set_cons_succ])
                          refine wpAnyH_take (i := 15) (v := ?_) rfl (by kernel_rfl) (by kernel_rfl) (by kernel_rfl) (fun _ _ _ h => h) (Or.inl ⟨by first | kernel_rfl | rfl, ?_⟩) (by assumption) ?_
                          rotate_left
                          · intro w hSw
                            (try dsimp only at hSw)
                            (try go_split_ands)
                            go_simp
                            try with_reducible rfl
                          (try simp only [Act.put, List.setIfInBounds_toArray, List.set_cons_zero, List.set_cons_succ])
                          refine wpAnyH_take (i := 16) (v := ?_) rfl (by kernel_rfl) (by kernel_rfl) (by kernel_rfl) (fun _ _ _ h => h) (Or.inl ⟨by first | kernel_rfl | rfl, ?_⟩) (by assumption) ?_
                          rotate_left
                          · intro w hSw
                            (try dsimp only at hSw)
                            (try go_split_ands)
                            go_simp
                            try with_reducible rfl
                          (try simp only [Act.put, List.setIfInBounds_toArray, List.set_cons_zero, List.set_cons_succ])
                          refine wpAnyH_take (i := 17) (v := ?_) rfl (by kernel_rfl) (by kernel_rfl) (by kernel_rfl) (fun _ _ _ h => h) (Or.inl ⟨by first | kernel_rfl | rfl, ?_⟩) (by assumption) ?_
                          rotate_left
                          · intro w hSw
                            (try dsimp only at hSw)
                            (try go_split_ands)
                            go_simp
                            try with_reducible rfl
                          (try simp only [Act.put, List.setIfInBounds_toArray, List.set_cons_zero, List.set_cons_succ])
                          refine wpAnyH_take (i := 19) (v := ?_) rfl (by kernel_rfl) (by kernel_rfl) (by kernel_rfl) (fun _ _ _ h => h) (Or.inl ⟨by first | kernel_rfl | rfl, ?_⟩) (by assumption) ?_
                          rotate_left
                          · intro w hSw
                            (try dsimp only at hSw)
                            (try go_split_ands)
                            go_simp
                            try with_reducible rfl
                          (try simp only [Act.put, List.setIfInBounds_toArray, List.set_cons_zero, List.set_cons_succ])
                          refine wpAnyH_take (i := 20) (v := ?_) rfl (by kernel_rfl) (by kernel_rfl) (by kernel_rfl) (fun _ _ _ h => h) (Or.inl ⟨by first | kernel_rfl | rfl, ?_⟩) (by assumption) ?_
                          rotate_left
                          · intro w hSw
                            (try dsimp only at hSw)
                            (try go_split_ands)
                            go_simp
                            try with_reducible rfl
                          (try simp only [Act.put, List.setIfInBounds_toArray, List.set_cons_zero, List.set_cons_succ])
                          refine wpAnyH_take (i := 21) (v := ?_) rfl (by kernel_rfl) (by kernel_rfl) (by kernel_rfl) (fun _ _ _ h => h) (Or.inl ⟨by first | kernel_rfl | rfl, ?_⟩) (by assumption) ?_
                          rotate_left
                          · intro w hSw
                            (try dsimp only at hSw)
                            (try go_split_ands)
                            go_simp
                            try with_reducible rfl
                          (try simp only [Act.put, List.setIfInBounds_toArray, List.set_cons_zero, List.set_cons_succ])
                          refine wpAnyH_take (i := 22) (v := ?_) rfl (by kernel_rfl) (by kernel_rfl) (by kernel_rfl) (fun _ _ _ h => h) (Or.inl ⟨by first | kernel_rfl | rfl, ?_⟩) (by assumption) ?_
                          rotate_left
                          · intro w hSw
                            (try dsimp only at hSw)
                            (try go_split_ands)
                            go_simp
                            try with_reducible rfl
                          (try simp only [Act.put, List.setIfInBounds_toArray, List.set_cons_zero, List.set_cons_succ])
                          refine wpAnyH_take (i := 23) (v := ?_) rfl (by kernel_rfl) (by kernel_rfl) (by kernel_rfl) (fun _ _ _ h => h) (Or.inl ⟨by first | kernel_rfl | rfl, ?_⟩) (by assumption) ?_
                          rotate_left
                          · intro w hSw
                            (try dsimp only at hSw)
                            (try go_split_ands)
                            go_simp
                            try with_reducible rfl
                          (try simp only [Act.put, List.setIfInBounds_toArray, List.set_cons_zero, List.set_cons_succ])
                          refine wpAnyH_take (i := 24) (v := ?_) rfl (by kernel_rfl) (by kernel_rfl) (by kernel_rfl) (fun _ _ _ h => h) (Or.inl ⟨by first | kernel_rfl | rfl, ?_⟩) (by assumption) ?_
                          rotate_left
                          · intro w hSw
                            (try dsimp only at hSw)
                            (try go_split_ands)
                            go_simp
                            try with_reducible rfl
                          (try simp only [Act.put, List.setIfInBounds_toArray, List.set_cons_zero, List.set_cons_succ])
                          refine wpAnyH_take (i := 25) (v := ?_) rfl (by kernel_rfl) (by kernel_rfl) (by kernel_rfl) (fun _ _ _ h => h) (Or.inl ⟨by first | kernel_rfl | rfl, ?_⟩) (by assumption) ?_
                          rotate_left
                          · intro w hSw
                            (try dsimp only at hSw)
                            (try go_split_ands)
                            go_simp
                            try with_reducible rfl
                          (try simp only [Act.put, List.setIfInBounds_toArray, List.set_cons_zero, List.set_cons_succ])
                          refine wpAnyH_take (i := 26) (v := ?_) rfl (by kernel_rfl) (by kernel_rfl) (by kernel_rfl) (fun _ _ _ h => h) (Or.inl ⟨by first | kernel_rfl | rfl, ?_⟩) (by assumption) ?_
                          rotate_left
                          · intro w hSw
                            (try dsimp only at hSw)
                            (try go_split_ands)
                            go_simp
                            try with_reducible rfl
                          (try simp only [Act.put, List.setIfInBounds_toArray, List.set_cons_zero, List.set_cons_succ])
                          refine wpAnyH_take (i := 27) (v := ?_) rfl (by kernel_rfl) (by kernel_rfl) (by kernel_rfl) (fun _ _ _ h => h) (Or.inl ⟨by first | kernel_rfl | rfl, ?_⟩) (by assumption) ?_
                          rotate_left
                          · intro w hSw
                            (try dsimp only at hSw)
                            (try go_split_ands)
                            go_simp
                            try with_reducible rfl
                          (try simp only [Act.put, List.setIfInBounds_toArray, List.set_cons_zero, List.set_cons_succ])
                          refine wpAnyH_ready (rs := [18]) (by kernel_rfl) (by simp) ?_
                          refine AllReadyH.cons rfl (fun K hK => ?_) AllReadyH.nil
                          go_simp
                          go_at_call 224
                          refine (C1.out _ h4.drew).mono ?_
                          rintro e w6 ⟨rfl, b6⟩
                          have h5 := h4.below (below_undrew b6) (Nat.le_refl _)
                          have p0 := (b6.cell (p := ⟨w.heap.size, 0, none⟩) zw).trans q0
                          have p1 := (b6.cell (p := ⟨b, off + i, none⟩) zb).trans q1
                          have p2 := (b6.cell (p := ⟨b, off + j, none⟩) zb).trans q2
                          have p3 := (b6.cell (p := ⟨b, off + k, none⟩) zb).trans q3
                          have p4 := (b6.cell (p := ⟨b, off + m, none⟩) zb).trans q4
                          refine hK.out _ _ ⟨p0, p1, p2, p3, p4⟩ (fun hHeld => ?_)
                          clear hK K
                          (try simp only [Act.put, List.setIfInBounds_toArray, List.set_cons_zero, List.set_cons_succ])
                          refine wpAnyH_ready (rs := [28]) (by kernel_rfl) (by simp) ?_
                          refine AllReadyH.cons rfl (fun K hK => ?_) AllReadyH.nil
                          go_simp
                          go_at_call 224
                          refine (C2.out _ h5).mono ?_
                          rintro e w7 ⟨rfl, b7⟩
                          have y0 := (b7.cell (p := ⟨w.heap.size, 0, none⟩) (Nat.lt_of_lt_of_le zw b6.size)).trans p0
                          have y1 := (b7.cell (p := ⟨b, off + i, none⟩) (Nat.lt_of_lt_of_le zb b6.size)).trans p1
                          have y2 := (b7.cell (p := ⟨b, off + j, none⟩) (Nat.lt_of_lt_of_le zb b6.size)).trans p2
                          have y3 := (b7.cell (p := ⟨b, off + k, none⟩) (Nat.lt_of_lt_of_le zb b6.size)).trans p3
                          have y4 := (b7.cell (p := ⟨b, off + m, none⟩) (Nat.lt_of_lt_of_le zb b6.size)).trans p4
                          refine hK.out _ _ ⟨y0, y1, y2, y3, y4⟩ (fun hHeld => ?_)
                          clear hK K
                          (try simp only [Act.put, List.setIfInBounds_toArray, List.set_cons_zero, List.set_cons_succ])
                          refine wpAnyH_ready (rs := [29]) (by kernel_rfl) (by simp) ?_
                          refine AllReadyH.cons rfl (fun K hK => ?_) AllReadyH.nil
                          go_simp
                          refine hK.out _ _ (by assumption) (fun hHeld => ?_)
                          clear hK K
                          (try simp only [Act.put, List.setIfInBounds_toArray, List.set_cons_zero, List.set_cons_succ])
                          refine wpAnyH_ready (rs := [30]) (by kernel_rfl) (by simp) ?_
                          refine AllReadyH.cons rfl (fun K hK => ?_) AllReadyH.nil
                          go_simp
                          refine hK.out _ _ (by assumption) (fun hHeld => ?_)
                          clear hK K
                          (try simp only [Act.put, List.setIfInBounds_toArray, List.set_cons_zero, List.set_cons_succ])
                          refine wpAnyH_done (by kernel_rfl) ?_ _
                          go_wp2_with fail
                          go_roundw
                          · exact ⟨m + 1, by omega, by omega, by go_num, HN, nx hbel (nx (below_undrew b6) b7)⟩
                          · simp only [intOf]; omega
                    · have f1 : ((k : Int) != (i : Int)) = true := by simp; omega
                      obtain ⟨ei, ni⟩ := elt_at hlt HM.out
                      obtain ⟨ej, nj⟩ := elt_at hlj HM.out
                      obtain ⟨ek, nk⟩ := elt_at (show k < l.length by omega) HM.out
                      obtain ⟨em, nm⟩ := elt_at hlm HM.out
                      have di := HCA.out i (by omega)
                      rw [ei] at di
                      have dj := HCA.out j (by omega)
                      rw [ej] at dj
                      have dk := HCA.out k (by omega)
                      rw [ek] at dk
                      have dm := HCA.out m (by omega)
                      rw [em] at dm
                      have q0 := (hbel.cell (p := ⟨w.heap.size, 0, none⟩) z2).trans hbox2
                      have q1 := (hbel.cell (p := ⟨b, off + i, none⟩) hbB).trans di
                      have q2 := (hbel.cell (p := ⟨b, off + j, none⟩) hbB).trans dj
                      have q3 := (hbel.cell (p := ⟨b, off + k, none⟩) hbB).trans dk
                      have q4 := (hbel.cell (p := ⟨b, off + m, none⟩) hbB).trans dm
                      have h4 := h3.below hbel (Nat.le_refl _)
                      have C1 := Lib.hid (fun w h => CA.out (elt l i) (elt l j) w h (by omega) (by omega))
                      have C2 := Lib.hid (fun w h => CA.out (elt l k) (elt l m) w h (by omega) (by omega))
                      have HPQ : Hid (SidQ os l i j k m → (k ≠ i ∨ m ≠ j) → gadd os (elt l i) (elt l j) ≠ gadd os (elt l k) (elt l m)) := Lib.hid (fun h h' => by
                        have h2 := h hij hlj (by omega) hkm hlm h'
                        exact h2)
                      have HQP : Hid ((gadd os (elt l i) (elt l j) ≠ gadd os (elt l k) (elt l m) ∨ ¬ (k ≠ i ∨ m ≠ j)) → ∀ m', m' < m + 1 → SidQ os l i j k m') := Lib.hid (fun h m' hm' => by
                        rcases Nat.lt_or_ge m' m with h' | h'
                        · exact HMM.out m' h'
                        · obtain rfl : m' = m := by omega
                          intro g1 g2 g3 g4 g5 g6
                          rcases h with h | h
                          · exact h
                          · exact absurd g6 h)
                      obtain ⟨P, hP⟩ : ∃ P, P = gadd os (elt l i) (elt l j) := ⟨_, rfl⟩
                      obtain ⟨Q, hQ⟩ : ∃ Q, Q = gadd os (elt l k) (elt l m) := ⟨_, rfl⟩
                      rw [← hP, ← hQ] at HPQ HQP
                      rw [← hP] at C1
                      rw [← hQ] at C2
                      obtain ⟨yi, hyi⟩ : ∃ y, y = elt l i := ⟨_, rfl⟩
                      obtain ⟨yj, hyj⟩ : ∃ y, y = elt l j := ⟨_, rfl⟩
                      obtain ⟨yk, hyk⟩ : ∃ y, y = elt l k := ⟨_, rfl⟩
                      obtain ⟨ym, hym⟩ : ∃ y, y = elt l m := ⟨_, rfl⟩
                      rw [← hyi] at q1 C1
                      rw [← hyj] at q2 C1
                      rw [← hyk] at q3 C2
                      rw [← hym] at q4 C2
                      have zb : b < wr.heap.size := Nat.lt_of_lt_of_le hbB hbel.size
                      have zw : w.heap.size < wr.heap.size := Nat.lt_of_lt_of_le z2 hbel.size
                      have li : (i : Int) < l.length := by omega
                      have lj : (j : Int) < l.length := by omega
                      have lk : (k : Int) < l.length := by omega
                      have lm : (m : Int) < l.length := by omega
                      clear hP hQ hyi ei di hyj ej dj hyk ek dk hym em dm hbox2 h3 HMM HI HJ HK HCA CA HM HGL
                      have hkm2 : k ≠ i ∨ m ≠ j := .inl hk2
                      by_cases hpq : P = Q
                      · have hbq : ((P : Int) == (Q : Int)) = true := by rw [hpq]; simp
                        have hno : r = false := by
                          rcases HR.out with ⟨hp, _⟩ | ⟨_, e⟩
                          · exact absurd hpq (HPQ.out (sidQ_of hp i j k m) hkm2)
                          · exact e
                        subst hno
                        clear HPQ HQP HR hpq hkm2
                        go_wp2_with fail
                        refine wp_region_held_drew (S := fun w' => w'.cell? ⟨w.heap.size, 0, none⟩ = some (.slice a0 os.length c0) ∧ w'.cell? ⟨b, off + i, none⟩ = some (.int .i64 yi) ∧ w'.cell? ⟨b, off + j, none⟩ = some (.int .i64 yj) ∧ w'.cell? ⟨b, off + k, none⟩ = some (.int .i64 yk) ∧ w'.cell? ⟨b, off + m, none⟩ = some (.int .i64 ym)) (by kernel_rfl) ⟨q0, q1, q2, q3, q4⟩ (fun hHeld => ?_)
                        refine wpAnyH_take (i := 0) (v := ?_) rfl (by kernel_rfl) (by kernel_rfl) (by kernel_rfl) (fun _ _ _ h => h) (Or.inl ⟨by first | kernel_rfl | rfl, ?_⟩) (by assumption) ?_
                        rotate_left
                        · intro w hSw
                          (try dsimp only at hSw)
                          (try go_split_ands)
                          go_simp
                          try with_reducible rfl
                        (try simp only [Act.put, List.setIfInBounds_toArray, List.set_cons_zero, List.set_cons_succ])
                        refine wpAnyH_take (i := 1) (v := ?_) rfl (by kernel_rfl) (by kernel_rfl) (by kernel_rfl) (fun _ _ _ h => h) (Or.inl ⟨by first | kernel_rfl | rfl, ?_⟩) (by assumption) ?_
                        rotate_left
                        · intro w hSw
                          (try dsimp only at hSw)
                          (try go_split_ands)
                          go_simp
                          try with_reducible rfl
                        (try simp only [Act.put, List.setIfInBounds_toArray, List.set_cons_zero, List.set_cons_succ])
                        refine wpAnyH_take (i := 2) (v := ?_) rfl (by kernel_rfl) (by kernel_rfl) (by kernel_rfl) (fun _ _ _ h => h) (Or.inl ⟨by first | kernel_rfl | rfl, ?_⟩) (by assumption) ?_
                        rotate_left
                        · intro w hSw
                          (try dsimp only at hSw)
                          (try go_split_ands)
                          go_simp
                          try with_reducible rfl
                        (try simp only [Act.put, List.setIfInBounds_toArray, List.set_cons_zero, List.set_cons_succ])
                        refine wpAnyH_take (i := 3) (v := ?_) rfl (by kernel_rfl) (by kernel_rfl) (by kernel_rfl) (fun _ _ _ h => h) (Or.inl ⟨by first | kernel_rfl | rfl, ?_⟩) (by assumption) ?_
                        rotate_left
                        · intro w hSw
                          (try dsimp only at hSw)
                          (try go_split_ands)
                          go_simp
                          try with_reducible rfl
                        (try simp only [Act.put, List.setIfInBounds_toArray, List.set_cons_zero, List.set_cons_succ])
                        refine wpAnyH_take (i := 4) (v := undef) rfl (by kernel_rfl) (by kernel_rfl) (by kernel_rfl) (fun _ _ _ h => h) (Or.inr ⟨by kernel_rfl, rfl⟩) (by assumption) ?_
                        (try simp only [Act.put, List.setIfInBounds_toArray, List.set_cons_zero, List.set_cons_succ])
                        refine wpAnyH_take (i := 5) (v := undef) rfl (by kernel_rfl) (by kernel_rfl) (by kernel_rfl) (fun _ _ _ h => h) (Or.inr ⟨by kernel_rfl, rfl⟩) (by assumption) ?_
                        (try simp only [Act.put, List.setIfInBounds_toArray, List.set_cons_zero, List.set_cons_succ])
                        refine wpAnyH_take (i := 6) (v := undef) rfl (by kernel_rfl) (by kernel_rfl) (by kernel_rfl) (fun _ _ _ h => h) (Or.inr ⟨by kernel_rfl, rfl⟩) (by assumption) ?_
                        (try simp only [Act.put, List.setIfInBounds_toArray, List.set_cons_zero, List.set_cons_succ])
                        refine wpAnyH_take (i := 7) (v := ?_) rfl (by kernel_rfl) (by kernel_rfl) (by kernel_rfl) (fun _ _ _ h => h) (Or.inl ⟨by first | kernel_rfl | rfl, ?_⟩) (by assumption) ?_
                        rotate_left
                        · intro w hSw
                          (try dsimp only at hSw)
                          (try go_split_ands)
                          go_simp
                          try with_reducible rfl
                        (try simp only [Act.put, List.setIfInBounds_toArray, List.set_cons_zero, List.set_cons_succ])
                        refine wpAnyH_take (i := 8) (v := ?_) rfl (by kernel_rfl) (by kernel_rfl) (by kernel_rfl) (fun _ _ _ h => h) (Or.inl ⟨by first | kernel_rfl | rfl, ?_⟩) (by assumption) ?_
                        rotate_left
                        · intro w hSw
                          (try dsimp only at hSw)
                          (try go_split_ands)
                          go_simp
                          try with_reducible rfl
                        (try simp only [Act.put, List.setIfInBounds_toArray, List.set_cons_zero, List.set_cons_succ])
                        refine wpAnyH_take (i := 9) (v := ?_) rfl (by kernel_rfl) (by kernel_rfl) (by kernel_rfl) (fun _ _ _ h => h) (Or.inl ⟨by first | kernel_rfl | rfl, ?_⟩) (by assumption) ?_
                        rotate_left
                        · intro w hSw
                          (try dsimp only at hSw)
                          (try go_split_ands)
                          go_simp
                          try with_reducible rfl
                        (try simp only [Act.put, List.setIfInBounds_toArray, List.set_cons_zero, List.set_cons_succ])
                        refine wpAnyH_take (i := 10) (v := ?_) rfl (by kernel_rfl) (by kernel_rfl) (by kernel_rfl) (fun _ _ _ h => h) (Or.inl ⟨by first | kernel_rfl | rfl, ?_⟩) (by assumption) ?_
                        rotate_left
                        · intro w hSw
                          (try dsimp only at hSw)
                          (try go_split_ands)
                          go_simp
                          try with_reducible rfl
                        (try simp only [Act.put, List.setIfInBounds_toArray, List.set_cons_zero, List.set_cons_succ])
                        refine wpAnyH_take (i := 11) (v := ?_) rfl (by kernel_rfl) (by kernel_rfl) (by kernel_rfl) (fun _ _ _ h => h) (Or.inl ⟨by first | kernel_rfl | rfl, ?_⟩) (by assumption) ?_
                        rotate_left
                        · intro w hSw
                          (try dsimp only at hSw)
                          (try go_split_ands)
                          go_simp
                          try with_reducible rfl
                        (try simp only [Act.put, List.setIfInBounds_toArray, List.set_cons_zero, List.set_cons_succ])
                        refine wpAnyH_take (i := 12) (v := ?_) rfl (by kernel_rfl) (by kernel_rfl) (by kernel_rfl) (fun _ _ _ h => h) (Or.inl ⟨by first | kernel_rfl | rfl, ?_⟩) (by assumption) ?_
                        rotate_left
                        · intro w hSw
                          (try dsimp only at hSw)
                          (try go_split_ands)
                          go_simp
                          try with_reducible rfl
                        (try simp only [Act.put, List.setIfInBounds_toArray, List.set_cons_zero, List.set_cons_succ])
                        refine wpAnyH_take (i := 13) (v := ?_) rfl (by kernel_rfl) (by kernel_rfl) (by kernel_rfl) (fun _ _ _ h => h) (Or.inl ⟨by first | kernel_rfl | rfl, ?_⟩) (by assumption) ?_
                        rotate_left
                        · intro w hSw
                          (try dsimp only at hSw)
                          (try go_split_ands)
                          go_simp
                          try with_reducible rfl
                        (try simp only [Act.put, List.setIfInBounds_toArray, List.set_cons_zero, List.set_cons_succ])
                        refine wpAnyH_take (i := 14) (v := ?_) rfl (by kernel_rfl) (by kernel_rfl) (by kernel_rfl) (fun _ _ _ h => h) (Or.inl ⟨by first | kernel_rfl | rfl, ?_⟩) (by assumption) ?_
                        rotate_left
                        · intro w hSw
                          (try dsimp only at hSw)
                          (try go_split_ands)
                          go_simp
                          try with_reducible rfl
                        (try simp only [Act.put, List.setIfInBounds_toArray, List.set_cons_zero, List.set_cons_succ])
                        refine wpAnyH_take (i := 15) (v := ?_) rfl (by kernel_rfl) (by kernel_rfl) (by kernel_rfl) (fun _ _ _ h => h) (Or.inl ⟨by first | kernel_rfl | rfl, ?_⟩) (by assumption) ?_
                        rotate_left
                        · intro w hSw
                          (try dsimp only at hSw)
                          (try go_split_ands)
                          go_simp
                          try with_reducible rfl
                        (try simp only [Act.put, List.setIfInBounds_toArray, List.set_cons_zero, List.set_cons_succ])
                        refine wpAnyH_take (i := 16) (v := ?_) rfl (by kernel_rfl) (by kernel_rfl) (by kernel_rfl) (fun _ _ _ h => h) (Or.inl ⟨by first | kernel_rfl | rfl, ?_⟩) (by assumption) ?_
                        rotate_left
                        · intro w hSw
                          (try dsimp only at hSw)
                          (try go_split_ands)
                          go_simp
                          try with_reducible rfl
                        (try simp only [Act.put, List.setIfInBounds_toArray, List.set_cons_zero, List.set_cons_succ])
                        refine wpAnyH_take (i := 17) (v := ?_) rfl (by kernel_rfl) (by kernel_rfl) (by kernel_rfl) (fun _ _ _ h => h) (Or.inl ⟨by first | kernel_rfl | rfl, ?_⟩) (by assumption) ?_
                        rotate_left
                        · intro w hSw
                          (try dsimp only at hSw)
                          (try go_split_ands)
                          go_simp
                          try with_reducible rfl
                        (try simp only [Act.put, List.setIfInBounds_toArray, List.set_cons_zero, List.set_cons_succ])
                        refine wpAnyH_take (i := 19) (v := ?_) rfl (by kernel_rfl) (by kernel_rfl) (by kernel_rfl) (fun _ _ _ h => h) (Or.inl ⟨by first | kernel_rfl | rfl, ?_⟩) (by assumption) ?_
                        rotate_left
                        · intro w hSw
                          (try dsimp only at hSw)
                          (try go_split_ands)
                          go_simp
                          try with_reducible rfl
                        (try simp only [Act.put, List.setIfInBounds_toArray, List.set_cons_zero, List.set_cons_succ])
                        refine wpAnyH_take (i := 20) (v := ?_) rfl (by kernel_rfl) (by kernel_rfl) (by kernel_rfl) (fun _ _ _ h => h) (Or.inl ⟨by first | kernel_rfl | rfl, ?_⟩) (by assumption) ?_
                        rotate_left
                        · intro w hSw
                          (try dsimp only at hSw)
                          (try go_split_ands)
                          go_simp
                          try with_reducible rfl
                        (try simp only [Act.put, List.setIfInBounds_toArray, List.set_cons_zero, List.set_cons_succ])
                        refine wpAnyH_take (i := 21) (v := ?_) rfl (by kernel_rfl) (by kernel_rfl) (by kernel_rfl) (fun _ _ _ h => h) (Or.inl ⟨by first | kernel_rfl | rfl, ?_⟩) (by assumption) ?_
                        rotate_left
                        · intro w hSw
                          (try dsimp only at hSw)
                          (try go_split_ands)
                          go_simp
                          try with_reducible rfl
                        (try simp only [Act.put, List.setIfInBounds_toArray, List.set_cons_zero, List.set_cons_succ])
                        refine wpAnyH_take (i := 22) (v := ?_) rfl (by kernel_rfl) (by kernel_rfl) (by kernel_rfl) (fun _ _ _ h => h) (Or.inl ⟨by first | kernel_rfl | rfl, ?_⟩) (by assumption) ?_
                        rotate_left
                        · intro w hSw
                          (try dsimp only at hSw)
                          (try go_split_ands)
                          go_simp
                          try with_reducible rfl
                        (try simp only [Act.put, List.setIfInBounds_toArray, List.set_cons_zero, List.set_cons_succ])
                        refine wpAnyH_take (i := 23) (v := ?_) rfl (by kernel_rfl) (by kernel_rfl) (by kernel_rfl) (fun _ _ _ h => h) (Or.inl ⟨by first | kernel_rfl | rfl, ?_⟩) (by assumption) ?_
                        rotate_left
                        · intro w hSw
                          (try dsimp only at hSw)
                          (try go_split_ands)
                          go_simp
                          try with_reducible rfl
                        (try simp only [Act.put, List.setIfInBounds_toArray, List.set_cons_zero, List.set_cons_succ])
                        refine wpAnyH_take (i := 24) (v := ?_) rfl (by kernel_rfl) (by kernel_rfl) (by kernel_rfl) (fun _ _ _ h => h) (Or.inl ⟨by first | kernel_rfl | rfl, ?_⟩) (by assumption) ?_
                        rotate_left
                        · intro w hSw
                          (try dsimp only at hSw)
                          (try go_split_ands)
                          go_simp
                          try with_reducible rfl
                        (try simp only [Act.put, List.setIfInBounds_toArray, List.set_cons_zero, List.set_cons_succ])
                        refine wpAnyH_take (i := 25) (v := ?_) rfl (by kernel_rfl) (by kernel_rfl) (by kernel_rfl) (fun _ _ _ h => h) (Or.inl ⟨by first | kernel_rfl | rfl, ?_⟩) (by assumption) ?_
                        rotate_left
                        · intro w hSw
                          (try dsimp only at hSw)
                          (try go_split_ands)
                          go_simp
                          try with_reducible rfl
                        (try simp only [Act.put, List.setIfInBounds_toArray, List.set_cons_zero, List.set_cons_succ])
                        refine wpAnyH_take (i := 26) (v := ?_) rfl (by kernel_rfl) (by kernel_rfl) (by kernel_rfl) (fun _ _ _ h => h) (Or.inl ⟨by first | kernel_rfl | rfl, ?_⟩) (by assumption) ?_
                        rotate_left
                        · intro w hSw
                          (try dsimp only at hSw)
                          (try go_split_ands)
                          go_simp
                          try with_reducible rfl
                        (try simp only [Act.put, List.setIfInBounds_toArray, List.set_cons_zero, List.set_cons_succ])
                        refine wpAnyH_take (i := 27) (v := ?_) rfl (by kernel_rfl) (by kernel_rfl) (by kernel_rfl) (fun _ _ _ h => h) (Or.inl ⟨by first | kernel_rfl | rfl, ?_⟩) (by assumption) ?_
                        rotate_left
                        · intro w hSw
                          (try dsimp only at hSw)
                          (try go_split_ands)
                          go_simp
                          try with_reducible rfl
                        (try simp only [Act.put, List.setIfInBounds_toArray, List.set_cons_zero, List.set_cons_succ])
                        refine wpAnyH_ready (rs := [18]) (by kernel_rfl) (by simp) ?_
                        refine AllReadyH.cons rfl (fun K hK => ?_) AllReadyH.nil
                        go_simp
                        go_at_call 224
                        refine (C1.out _ h4.drew).mono ?_
                        rintro e w6 ⟨rfl, b6⟩
                        have h5 := h4.below (below_undrew b6) (Nat.le_refl _)
                        have p0 := (b6.cell (p := ⟨w.heap.size, 0, none⟩) zw).trans q0
                        have p1 := (b6.cell (p := ⟨b, off + i, none⟩) zb).trans q1
                        have p2 := (b6.cell (p := ⟨b, off + j, none⟩) zb).trans q2
                        have p3 := (b6.cell (p := ⟨b, off + k, none⟩) zb).trans q3
                        have p4 := (b6.cell (p := ⟨b, off + m, none⟩) zb).trans q4
                        refine hK.out _ _ ⟨p0, p1, p2, p3, p4⟩ (fun hHeld => ?_)
                        clear hK K
                        (try simp only [Act.put, List.setIfInBounds_toArray, List.set_cons_zero, List.set_cons_succ])
                        refine wpAnyH_ready (rs := [28]) (by kernel_rfl) (by simp) ?_
                        refine AllReadyH.cons rfl (fun K hK => ?_) AllReadyH.nil
                        go_simp
                        go_at_call 224
                        refine (C2.out _ h5).mono ?_
                        rintro e w7 ⟨rfl, b7⟩
                        have y0 := (b7.cell (p := ⟨w.heap.size, 0, none⟩) (Nat.lt_of_lt_of_le zw b6.size)).trans p0
                        have y1 := (b7.cell (p := ⟨b, off + i, none⟩) (Nat.lt_of_lt_of_le zb b6.size)).trans p1
                        have y2 := (b7.cell (p := ⟨b, off + j, none⟩) (Nat.lt_of_lt_of_le zb b6.size)).trans p2
                        have y3 := (b7.cell (p := ⟨b, off + k, none⟩) (Nat.lt_of_lt_of_le zb b6.size)).trans p3
                        have y4 := (b7.cell (p := ⟨b, off + m, none⟩) (Nat.lt_of_lt_of_le zb b6.size)).trans p4
                        refine hK.out _ _ ⟨y0, y1, y2, y3, y4⟩ (fun hHeld => ?_)
                        clear hK K
                        (try simp only [Act.put, List.setIfInBounds_toArray, List.set_cons_zero, List.set_cons_succ])
                        refine wpAnyH_ready (rs := [29]) (by kernel_rfl) (by simp) ?_
                        refine AllReadyH.cons rfl (fun K hK => ?_) AllReadyH.nil
                        go_simp
                        refine hK.out _ _ (by assumption) (fun hHeld => ?_)
                        clear hK K
                        (try simp only [Act.put, List.setIfInBounds_toArray, List.set_cons_zero, List.set_cons_succ])
                        refine wpAnyH_ready (rs := [30]) (by kernel_rfl) (by simp) ?_
                        refine AllReadyH.cons rfl (fun K hK => ?_) AllReadyH.nil
                        go_simp
                        refine hK.out _ _ (by assumption) (fun hHeld => ?_)
                        clear hK K
                        (try simp only [Act.put, List.setIfInBounds_toArray, List.set_cons_zero, List.set_cons_succ])
                        refine wpAnyH_done (by kernel_rfl) ?_ _
                        go_wp2_with fail
                        go_ret
                        exact ⟨rfl, nx B2 (nx hbel (nx (below_undrew b6) b7))⟩
                      · have hbq : ((P : Int) == (Q : Int)) = false := by rw [nat_beq]; simpa using hpq
                        have HN := Lib.hid (HQP.out (.inl hpq))
                        clear HPQ HQP hpq hkm2
                        go_wp2_with fail
                        refine wp_region_held_drew (S := fun w' => w'.cell? ⟨w.heap.size, 0, none⟩ = some (.slice a0 os.length c0) ∧ w'.cell? ⟨b, off + i, none⟩ = some (.int .i64 yi) ∧ w'.cell? ⟨b, off + j, none⟩ = some (.int .i64 yj) ∧ w'.cell? ⟨b, off + k, none⟩ = some (.int .i64 yk) ∧ w'.cell? ⟨b, off + m, none⟩ = some (.int .i64 ym)) (by kernel_rfl) ⟨q0, q1, q2, q3, q4⟩ (fun hHeld => ?_)
                        refine wpAnyH_take (i := 0) (v := ?_) rfl (by kernel_rfl) (by kernel_rfl) (by kernel_rfl) (fun _ _ _ h => h) (Or.inl ⟨by first | kernel_rfl | rfl, ?_⟩) (by assumption) ?_
                        rotate_left
                        · intro w hSw
                          (try dsimp only at hSw)
                          (try go_split_ands)
                          go_simp
                          try with_reducible rfl
                        (try simp only [Act.put, List.setIfInBounds_toArray, List.set_cons_zero, List.set_cons_succ])
                        refine wpAnyH_take (i := 1) (v := ?_) rfl (by kernel_rfl) (by kernel_rfl) (by kernel_rfl) (fun _ _ _ h => h) (Or.inl ⟨by first | kernel_rfl | rfl, ?_⟩) (by assumption) ?_
                        rotate_left
                        · intro w hSw
                          (try dsimp only at hSw)
                          (try go_split_ands)
                          go_simp
                          try with_reducible rfl
                        (try simp only [Act.put, List.setIfInBounds_toArray, List.set_cons_zero, List.set_cons_succ])
                        refine wpAnyH_take (i := 2) (v := ?_) rfl (by kernel_rfl) (by kernel_rfl) (by kernel_rfl) (fun _ _ _ h => h) (Or.inl ⟨by first | kernel_rfl | rfl, ?_⟩) (by assumption) ?_
                        rotate_left
                        · intro w hSw
                          (try dsimp only at hSw)
                          (try go_split_ands)
                          go_simp
                          try with_reducible rfl
                        (try simp only [Act.put, List.setIfInBounds_toArray, List.set_cons_zero, List.set_cons_succ])
                        refine wpAnyH_take (i := 3) (v := ?_) rfl (by kernel_rfl) (by kernel_rfl) (by kernel_rfl) (fun _ _ _ h => h) (Or.inl ⟨by first | kernel_rfl | rfl, ?_⟩) (by assumption) ?_
                        rotate_left
                        · intro w hSw
                          (try dsimp only at hSw)
                          (try go_split_ands)
                          go_simp
                          try with_reducible rfl
                        (try simp only [Act.put, List.setIfInBounds_toArray, List.set_cons_zero, List.set_cons_succ])
                        refine wpAnyH_take (i := 4) (v := undef) rfl (by kernel_rfl) (by kernel_rfl) (by kernel_rfl) (fun _ _ _ h => h) (Or.inr ⟨by kernel_rfl, rfl⟩) (by assumption) ?_
                        (try simp only [Act.put, List.setIfInBounds_toArray, List.set_cons_zero, List.set_cons_succ])
                        refine wpAnyH_take (i := 5) (v := undef) rfl (by kernel_rfl) (by kernel_rfl) (by kernel_rfl) (fun _ _ _ h => h) (Or.inr ⟨by kernel_rfl, rfl⟩) (by assumption) ?_
                        (try simp only [Act.put, List.setIfInBounds_toArray, List.set_cons_zero, List.set_cons_succ])
                        refine wpAnyH_take (i := 6) (v := undef) rfl (by kernel_rfl) (by kernel_rfl) (by kernel_rfl) (fun _ _ _ h => h) (Or.inr ⟨by kernel_rfl, rfl⟩) (by assumption) ?_
                        (try simp only [Act.put, List.setIfInBounds_toArray, List.set_cons_zero, List.set_cons_succ])
                        refine wpAnyH_take (i := 7) (v := ?_) rfl (by kernel_rfl) (by kernel_rfl) (by kernel_rfl) (fun _ _ _ h => h) (Or.inl ⟨by first | kernel_rfl | rfl, ?_⟩) (by assumption) ?_
                        rotate_left
                        · intro w hSw
                          (try dsimp only at hSw)
                          (try go_split_ands)
                          go_simp
                          try with_reducible rfl
                        (try simp only [Act.put, List.setIfInBounds_toArray, List.set_cons_zero, List.set_cons_succ])
                        refine wpAnyH_take (i := 8) (v := ?_) rfl (by kernel_rfl) (by kernel_rfl) (by kernel_rfl) (fun _ _ _ h => h) (Or.inl ⟨by first | kernel_rfl | rfl, ?_⟩) (by assumption) ?_
                        rotate_left
                        · intro w hSw
                          (try dsimp only at hSw)
                          (try go_split_ands)
                          go_simp
                          try with_reducible rfl
                        (try simp only [Act.put, List.setIfInBounds_toArray, List.set_cons_zero, List.set_cons_succ])
                        refine wpAnyH_take (i := 9) (v := ?_) rfl (by kernel_rfl) (by kernel_rfl) (by kernel_rfl) (fun _ _ _ h => h) (Or.inl ⟨by first | kernel_rfl | rfl, ?_⟩) (by assumption) ?_
                        rotate_left
                        · intro w hSw
                          (try dsimp only at hSw)
                          (try go_split_ands)
                          go_simp
                          try with_reducible rfl
                        (try simp only [Act.put, List.setIfInBounds_toArray, List.set_cons_zero, List.set_cons_succ])
                        refine wpAnyH_take (i := 10) (v := ?_) rfl (by kernel_rfl) (by kernel_rfl) (by kernel_rfl) (fun _ _ _ h => h) (Or.inl ⟨by first | kernel_rfl | rfl, ?_⟩) (by assumption) ?_
                        rotate_left
                        · intro w hSw
                          (try dsimp only at hSw)
                          (try go_split_ands)
                          go_simp
                          try with_reducible rfl
                        (try simp only [Act.put, List.setIfInBounds_toArray, List.set_cons_zero, List.set_cons_succ])
                        refine wpAnyH_take (i := 11) (v := ?_) rfl (by kernel_rfl) (by kernel_rfl) (by kernel_rfl) (fun _ _ _ h => h) (Or.inl ⟨by first | kernel_rfl | rfl, ?_⟩) (by assumption) ?_
                        rotate_left
                        · intro w hSw
                          (try dsimp only at hSw)
                          (try go_split_ands)
                          go_simp
                          try with_reducible rfl
                        (try simp only [Act.put, List.setIfInBounds_toArray, List.set_cons_zero, List.set_cons_succ])
                        refine wpAnyH_take (i := 12) (v := ?_) rfl (by kernel_rfl) (by kernel_rfl) (by kernel_rfl) (fun _ _ _ h => h) (Or.inl ⟨by first | kernel_rfl | rfl, ?_⟩) (by assumption) ?_
                        rotate_left
                        · intro w hSw
                          (try dsimp only at hSw)
                          (try go_split_ands)
                          go_simp
                          try with_reducible rfl
                        (try simp only [Act.put, List.setIfInBounds_toArray, List.set_cons_zero, List.set_cons_succ])
                        refine wpAnyH_take (i := 13) (v := ?_) rfl (by kernel_rfl) (by kernel_rfl) (by kernel_rfl) (fun _ _ _ h => h) (Or.inl ⟨by first | kernel_rfl | rfl, ?_⟩) (by assumption) ?_
                        rotate_left
                        · intro w hSw
                          (try dsimp only at hSw)
                          (try go_split_ands)
                          go_simp
                          try with_reducible rfl
                        (try simp only [Act.put, List.setIfInBounds_toArray, List.set_cons_zero, List.set_cons_succ])
                        refine wpAnyH_take (i := 14) (v := ?_) rfl (by kernel_rfl) (by kernel_rfl) (by kernel_rfl) (fun _ _ _ h => h) (Or.inl ⟨by first | kernel_rfl | rfl, ?_⟩) (by assumption) ?_
                        rotate_left
                        · intro w hSw
                          (try dsimp only at hSw)
                          (try go_split_ands)
                          go_simp
                          try with_reducible rfl
                        (try simp only [Act.put, List.setIfInBounds_toArray, List.set_cons_zero, List.set_cons_succ])
                        refine wpAnyH_take (i := 15) (v := ?_) rfl (by kernel_rfl) (by kernel_rfl) (by kernel_rfl) (fun _ _ _ h => h) (Or.inl ⟨by first | kernel_rfl | rfl, ?_⟩) (by assumption) ?_
                        rotate_left
                        · intro w hSw
                          (try dsimp only at hSw)
                          (try go_split_ands)
                          go_simp
                          try with_reducible rfl
                        (try simp only [Act.put, List.setIfInBounds_toArray, List.set_cons_zero, List.set_cons_succ])
                        refine wpAnyH_take (i := 16) (v := ?_) rfl (by kernel_rfl) (by kernel_rfl) (by kernel_rfl) (fun _ _ _ h => h) (Or.inl ⟨by first | kernel_rfl | rfl, ?_⟩) (by assumption) ?_
                        rotate_left
                        · intro w hSw
                          (try dsimp only at hSw)
                          (try go_split_ands)
                          go_simp
                          try with_reducible rfl
                        (try simp only [Act.put, List.setIfInBounds_toArray, List.set_cons_zero, List.set_cons_succ])
                        refine wpAnyH_take (i := 17) (v := ?_) rfl (by kernel_rfl) (by kernel_rfl) (by kernel_rfl) (fun _ _ _ h => h) (Or.inl ⟨by first | kernel_rfl | rfl, ?_⟩) (by assumption) ?_
                        rotate_left
                        · intro w hSw
                          (try dsimp only at hSw)
                          (try go_split_ands)
                          go_simp
                          try with_reducible rfl
                        (try simp only [Act.put, List.setIfInBounds_toArray, List.set_cons_zero, List.set_cons_succ])
                        refine wpAnyH_take (i := 19) (v := ?_) rfl (by kernel_rfl) (by kernel_rfl) (by kernel_rfl) (fun _ _ _ h => h) (Or.inl ⟨by first | kernel_rfl | rfl, ?_⟩) (by assumption) ?_
                        rotate_left
                        · intro w hSw
                          (try dsimp only at hSw)
                          (try go_split_ands)
                          go_simp
                          try with_reducible rfl
                        (try simp only [Act.put, List.setIfInBounds_toArray, List.set_cons_zero, List.set_cons_succ])
                        refine wpAnyH_take (i := 20) (v := ?_) rfl (by kernel_rfl) (by kernel_rfl) (by kernel_rfl) (fun _ _ _ h => h) (Or.inl ⟨by first | kernel_rfl | rfl, ?_⟩) (by assumption) ?_
                        rotate_left
                        · intro w hSw
                          (try dsimp only at hSw)
                          (try go_split_ands)
                          go_simp
                          try with_reducible rfl
                        (try simp only [Act.put, List.setIfInBounds_toArray, List.set_cons_zero, List.set_cons_succ])
                        refine wpAnyH_take (i := 21) (v := ?_) rfl (by kernel_rfl) (by kernel_rfl) (by kernel_rfl) (fun _ _ _ h => h) (Or.inl ⟨by first | kernel_rfl | rfl, ?_⟩) (by assumption) ?_
                        rotate_left
                        · intro w hSw
                          (try dsimp only at hSw)
                          (try go_split_ands)
                          go_simp
                          try with_reducible rfl
                        (try simp only [Act.put, List.setIfInBounds_toArray, List.set_cons_zero, List.set_cons_succ])
                        refine wpAnyH_take (i := 22) (v := ?_) rfl (by kernel_rfl) (by kernel_rfl) (by kernel_rfl) (fun _ _ _ h => h) (Or.inl ⟨by first | kernel_rfl | rfl, ?_⟩) (by assumption) ?_
                        rotate_left
                        · intro w hSw
                          (try dsimp only at hSw)
                          (try go_split_ands)
                          go_simp
                          try with_reducible rfl
                        (try simp only [Act.put, List.setIfInBounds_toArray, List.set_cons_zero, List.set_cons_succ])
                        refine wpAnyH_take (i := 23) (v := ?_) rfl (by kernel_rfl) (by kernel_rfl) (by kernel_rfl) (fun _ _ _ h => h) (Or.inl ⟨by first | kernel_rfl | rfl, ?_⟩) (by assumption) ?_
                        rotate_left
                        · intro w hSw
                          (try dsimp only at hSw)
                          (try go_split_ands)
                          go_simp
                          try with_reducible rfl
                        (try simp only [Act.put, List.setIfInBounds_toArray, List.set_cons_zero, List.set_cons_succ])
                        refine wpAnyH_take (i := 24) (v := ?_) rfl (by kernel_rfl) (by kernel_rfl) (by kernel_rfl) (fun _ _ _ h => h) (Or.inl ⟨by first | kernel_rfl | rfl, ?_⟩) (by assumption) ?_
                        rotate_left
                        · intro w hSw
                          (try dsimp only at hSw)
                          (try go_split_ands)
                          go_simp
                          try with_reducible rfl
                        (try simp only [Act.put, List.setIfInBounds_toArray, List.set_cons_zero, List.set_cons_succ])
                        refine wpAnyH_take (i := 25) (v := ?_) rfl (by kernel_rfl) (by kernel_rfl) (by kernel_rfl) (fun _ _ _ h => h) (Or.inl ⟨by first | kernel_rfl | rfl, ?_⟩) (by assumption) ?_
                        rotate_left
                        · intro w hSw
                          (try dsimp only at hSw)
                          (try go_split_ands)
                          go_simp
                          try with_reducible rfl
                        (try simp only [Act.put, List.setIfInBounds_toArray, List.set_cons_zero, List.set_cons_succ])
                        refine wpAnyH_take (i := 26) (v := ?_) rfl (by kernel_rfl) (by kernel_rfl) (by kernel_rfl) (fun _ _ _ h => h) (Or.inl ⟨by first | kernel_rfl | rfl, ?_⟩) (by assumption) ?_
                        rotate_left
                        · intro w hSw
                          (try dsimp only at hSw)
                          (try go_split_ands)
                          go_simp
                          try with_reducible rfl
                        (try simp only [Act.put, List.setIfInBounds_toArray, List.set_cons_zero, List.set_cons_succ])
                        refine wpAnyH_take (i := 27) (v := ?_) rfl (by kernel_rfl) (by kernel_rfl) (by kernel_rfl) (fun _ _ _ h => h) (Or.inl ⟨by first | kernel_rfl | rfl, ?_⟩) (by assumption) ?_
                        rotate_left
                        · intro w hSw
                          (try dsimp only at hSw)
                          (try go_split_ands)
                          go_simp
                          try with_reducible rfl
                        (try simp only [Act.put, List.setIfInBounds_toArray, List.set_cons_zero, List.set_cons_succ])
                        refine wpAnyH_ready (rs := [18]) (by kernel_rfl) (by simp) ?_
                        refine AllReadyH.cons rfl (fun K hK => ?_) AllReadyH.nil
                        go_simp
                        go_at_call 224
                        refine (C1.out _ h4.drew).mono ?_
                        rintro e w6 ⟨rfl, b6⟩
                        have h5 := h4.below (below_undrew b6) (Nat.le_refl _)
                        have p0 := (b6.cell (p := ⟨w.heap.size, 0, none⟩) zw).trans q0
                        have p1 := (b6.cell (p := ⟨b, off + i, none⟩) zb).trans q1
                        have p2 := (b6.cell (p := ⟨b, off + j, none⟩) zb).trans q2
                        have p3 := (b6.cell (p := ⟨b, off + k, none⟩) zb).trans q3
                        have p4 := (b6.cell (p := ⟨b, off + m, none⟩) zb).trans q4
                        refine hK.out _ _ ⟨p0, p1, p2, p3, p4⟩ (fun hHeld => ?_)
                        clear hK K
                        (try simp only [Act.put, List.setIfInBounds_toArray, List.set_cons_zero, List.set_cons_succ])
                        refine wpAnyH_ready (rs := [28]) (by kernel_rfl) (by simp) ?_
                        refine AllReadyH.cons rfl (fun K hK => ?_) AllReadyH.nil
                        go_simp
                        go_at_call 224
                        refine (C2.out _ h5).mono ?_
                        rintro e w7 ⟨rfl, b7⟩
                        have y0 := (b7.cell (p := ⟨w.heap.size, 0, none⟩) (Nat.lt_of_lt_of_le zw b6.size)).trans p0
                        have y1 := (b7.cell (p := ⟨b, off + i, none⟩) (Nat.lt_of_lt_of_le zb b6.size)).trans p1
                        have y2 := (b7.cell (p := ⟨b, off + j, none⟩) (Nat.lt_of_lt_of_le zb b6.size)).trans p2
                        have y3 := (b7.cell (p := ⟨b, off + k, none⟩) (Nat.lt_of_lt_of_le zb b6.size)).trans p3
                        have y4 := (b7.cell (p := ⟨b, off + m, none⟩) (Nat.lt_of_lt_of_le zb b6.size)).trans p4
                        refine hK.out _ _ ⟨y0, y1, y2, y3, y4⟩ (fun hHeld => ?_)
                        clear hK K
                        (try simp only [Act.put, List.setIfInBounds_toArray, List.set_cons_zero, List.set_cons_succ])
                        refine wpAnyH_ready (rs := [29]) (by kernel_rfl) (by simp) ?_
                        refine AllReadyH.cons rfl (fun K hK => ?_) AllReadyH.nil
                        go_simp
                        refine hK.out _ _ (by assumption) (fun hHeld => ?_)
                        clear hK K
                        (try simp only [Act.put, List.setIfInBounds_toArray, List.set_cons_zero, List.set_cons_succ])
                        refine wpAnyH_ready (rs := [30]) (by kernel_rfl) (by simp) ?_
                        refine AllReadyH.cons rfl (fun K hK => ?_) AllReadyH.nil
                        go_simp
                        refine hK.out _ _ (by assumption) (fun hHeld => ?_)
                        clear hK K
                        (try simp only [Act.put, List.setIfInBounds_toArray, List.set_cons_zero, List.set_cons_succ])
                        refine wpAnyH_done (by kernel_rfl) ?_ _
                        go_wp2_with fail
                        go_roundw
                        · exact ⟨m + 1, by omega, by omega, by go_num, HN, nx hbel (nx (below_undrew b6) b7)⟩
                        · simp only [intOf]; omega
                  · have HN := Lib.hid (show ∀ k' m, k' < k + 1 → SidQ os l i j k' m from fun k' m' h => by
                      rcases Nat.lt_or_ge k' k with h' | h'
                      · exact HK.out k' m' h'
                      · obtain rfl : k' = k := by omega
                        intro g1 g2 g3 g4 g5
                        exact HMM.out m' (by omega) g1 g2 g3 g4 g5)
                    clear HK HMM
                    go_wp2_with fail
                    go_roundw
                    · exact ⟨k + 1, by omega, by go_num, HN, hbel⟩
                    · simp only [intOf]; omega
              · have HN := Lib.hid (show ∀ j' k m, j' < j + 1 → SidQ os l i j' k m from fun j' k' m' h => by
                  rcases Nat.lt_or_ge j' j with h' | h'
                  · exact HJ.out j' k' m' h'
                  · obtain rfl : j' = j := by omega
                    intro g1 g2 g3
                    exact HK.out k' m' (by omega) g1 g2 g3)
                clear HJ HK
                go_wp2_with fail
                go_roundw
                · exact ⟨j + 1, by omega, by omega, by go_num, HN, hbel⟩
                · simp only [intOf]; omega
          · have HN := Lib.hid (show ∀ i' j k m, i' < i + 1 → SidQ os l i' j k m from fun i' j' k' m' h => by
              rcases Nat.lt_or_ge i' i with h' | h'
              · exact HI.out i' j' k' m' h'
              · obtain rfl : i' = i := by omega
                intro g1 g2
                exact HJ.out j' k' m' (by omega) g1 g2)
            clear HI HJ
            go_wp2_with fail
            go_roundw
            · exact ⟨i + 1, by omega, by go_num, HN, hbel⟩
            · simp only [intOf]; omega
    · have hyes : r = true := by
        rcases HR.out with ⟨_, e⟩ | ⟨hp, _⟩
        · exact e
        · exact absurd (sidP_of (fun i' j k m h => HI.out i' j k m (by omega))) hp
      subst hyes
      clear HI HM HCS HR
      go_wp2_with fail
      go_ret
      exact ⟨rfl, nx B2 hbel⟩
end Go.Proofs.Ytbidkjhgodkamaa
