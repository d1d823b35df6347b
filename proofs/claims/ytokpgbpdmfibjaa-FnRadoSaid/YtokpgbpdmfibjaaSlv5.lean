/-
The program's MonochromeSolution. Conditions: lengths at most 2000000.
-/
import Derived.Test.YtokpgbpdmfibjaaSlv4
namespace Go.Proofs.Ytokpgbpdmfibjaa
open Go.RowKit Go.ChangeShapes
set_option linter.unusedVariables false

theorem lastM_nil (cs : List Int) : lastM cs [] = [] := rfl
set_option maxRecDepth 20000 in
set_option maxHeartbeats 3200000 in
theorem mo_impl (a0 : Option Addr) (c0 : Nat) (c : List Int) (a1 : Option Addr) (c1 : Nat) (cs : List Int) (w : World) (h0 : Ints w a0 c0 c) (k0 : Ints w a1 c1 cs) (hl : c.length ≤ 2000000) (hlc : cs.length ≤ 2000000) :
    Calls Try.prog 41 #[.slice a0 c.length c0, .slice a1 cs.length c1] w (GaveIB w (moL c cs) (moB c cs)) := by
  have CE := Lib.hid (fun w h => isEqn_any a0 c0 c w h hl)
  obtain ⟨W1, hW1⟩ : ∃ W, W = ((w.alloc (.cells #[.slice a1 cs.length c1] 24)).alloc (.cells #[] 3)).alloc (.cells #[.slice (some ⟨w.heap.size + 1, 0, none⟩) 0 0] 24) := ⟨_, rfl⟩
  have hM : OwnI W1 w.heap.size (some ⟨w.heap.size + 1, 0, none⟩) 0 [] := by rw [hW1]; exact (OwnI.made_at (by simp) (by omega)).alloc _
  have hbc : W1.heap[w.heap.size]? = some (.cells #[.slice a1 cs.length c1] 24 (0, 0)) := by rw [hW1]; exact one_alloc (one_alloc (new_at rfl))
  have hbo : W1.heap[w.heap.size + 2]? = some (.cells #[.slice (some ⟨w.heap.size + 1, 0, none⟩) 0 0] 24 (0, 0)) := by rw [hW1]; exact new_at (by simp)
  have hB : Below w.heap.size w W1 := by rw [hW1]; exact (((Below.refl w.heap.size w).alloc (Nat.le_refl _) _).alloc (by simp) _).alloc (by simp; omega) _
  have hsz1 : w.heap.size + 3 ≤ W1.heap.size := by rw [hW1]; simp
  have h1 := h0.below hB (Nat.le_refl _)
  have q1 := cell_of_one hbo
  have q0 := cell_of_one hbc
  have HW := Lib.hid hW1
  have HM := Lib.hid hM
  have HBO := Lib.hid hbo
  have HBC := Lib.hid hbc
  clear hW1 hM hbo hbc
  obtain ⟨r, hr⟩ : ∃ r, r = moL c cs := ⟨_, rfl⟩
  obtain ⟨b, hb⟩ : ∃ r, r = moB c cs := ⟨_, rfl⟩
  have HR := Lib.hid hr
  have HBB := Lib.hid hb
  rw [← hr, ← hb]
  clear hr hb
  cases he : eqnB c with
  | false =>
    have e1 : b = false := by rw [HBB.out]; simp [moB, moF, he]
    have e2 : r = [] := by rw [HR.out]; simp [moL, moF, he]
    subst e1
    subst e2
    rw [he] at CE
    clear HBB HR he
    go_enter Try.func41, Try.ntmps41
    go_wp2_with fail
    rw [← HW.out]
    refine (CE.out _ h1).mono ?_; rintro e w2 ⟨rfl, rfl⟩
    go_wp2_with fail
    go_ret2
    exact ⟨_, _, rfl, HM.out, hB⟩
  | true =>
    rw [he] at CE
    cases hi : inB (cs.length : Int) 1 12 with
    | false =>
      have e1 : b = false := by rw [HBB.out]; simp [moB, moF, hi]
      have e2 : r = [] := by rw [HR.out]; simp [moL, moF, hi]
      subst e1
      subst e2
      have HI := Lib.hid hi
      clear HBB HR he hi
      go_enter Try.func41, Try.ntmps41
      go_wp2_with fail
      rw [← HW.out]
      refine (CE.out _ h1).mono ?_; rintro e w2 ⟨rfl, rfl⟩
      go_wp2_with fail
      refine (within_is (cs.length : Int) 1 12 false HI.out _).mono ?_; rintro e w2 ⟨rfl, rfl⟩
      go_wp2_with fail
      go_ret2
      exact ⟨_, _, rfl, HM.out, hB⟩
    | true =>
      have e1 : b = ((solL c cs.length (fun _ _ => true) c.length []).find? (mono cs)).isSome := by rw [HBB.out]; simp [moB, moF, he, hi]
      have e2 : r = ((solL c cs.length (fun _ _ => true) c.length []).find? (mono cs)).getD [] := by rw [HR.out]; simp [moL, moF, he, hi]
      obtain ⟨l4, lb⟩ := eqn_bd he
      have HI := Lib.hid hi
      obtain ⟨n1, n2⟩ := inB_true.1 hi
      have CS := Lib.hid (sol_any w a0 c0 c cs.length 117 #[.pointer (some ⟨w.heap.size, 0, none⟩), .pointer (some ⟨w.heap.size + 2, 0, none⟩)] (StM w w.heap.size w.heap.size (w.heap.size + 2) a1 c1 cs) (mono cs) w.heap.size W1 (by omega) l4 lb h0 (Nat.le_refl _) hB (by omega)
        (fun _ _ => rfl)
        (Lib.hid (fun bc bk bx bn bt bm w' k1 k2 k3 k4 k5 k6 hb' => ⟨some ⟨w.heap.size + 1, 0, none⟩, 0, one_below HBC.out hb' (Nat.le_refl _), one_below HBO.out hb' (Nat.le_refl _), HM.out.below hb' (Nat.le_refl _), (fun y hy => by
          cases hy
          exact ⟨by simp only; omega, by simp⟩), by omega, by omega⟩))
        (Lib.hid (fun bc bk bx bn bt bm L w j v h => h.set j v)) (Lib.hid (fun bc bk bx bn bt bm L w h => h.drew))
        (Lib.hid (take_m w w.heap.size w.heap.size (w.heap.size + 2) a0 c0 c a1 c1 cs k0 (Nat.le_refl _) (by omega) l4 (by omega))))
      rw [any_find, ← e1] at CS
      have HL : Hid (lastM cs (upTo (mono cs) (solL c cs.length (fun _ _ => true) c.length [])) = r) := Lib.hid (by rw [upTo_last, e2])
      clear HBB HR he hi e2 e1 lb
      go_enter Try.func41, Try.ntmps41
      go_wp2_with fail
      rw [← HW.out]
      refine (CE.out _ h1).mono ?_; rintro e w2 ⟨rfl, rfl⟩
      go_wp2_with fail
      refine (within_is (cs.length : Int) 1 12 true HI.out _).mono ?_; rintro e w2 ⟨rfl, rfl⟩
      go_wp2_with fail
      refine CS.out.mono ?_; rintro e w3 ⟨rfl, ⟨_, _, _, _, _, _, ao, co, bq⟩, b3⟩
      have hho := bq.ho
      have hoo := bq.oo
      rw [HL.out] at hho hoo
      have q3 := cell_of_one hho
      clear CS bq hho
      go_wp2_with fail
      go_ret2
      exact ⟨_, _, rfl, hoo, b3⟩
end Go.Proofs.Ytokpgbpdmfibjaa
