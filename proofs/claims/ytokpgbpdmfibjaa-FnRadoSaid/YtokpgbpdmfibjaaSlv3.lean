/-
The program's SolutionsIn. Conditions: lengths at most 2000000.
-/
import Derived.Test.YtokpgbpdmfibjaaSlv2
namespace Go.Proofs.Ytokpgbpdmfibjaa
open Go.RowKit Go.ChangeShapes
set_option linter.unusedVariables false

/-- Whether SolutionsIn has a list, and the list. -/
def siB (c : List Int) (n : Int) : Bool := eqnB c && inB n 0 8
def siL (c : List Int) (n : Int) : List (List Int) := if siB c n = true then solL c n.toNat (fun _ _ => true) c.length [] else []
theorem eqn_bd {c : List Int} (h : eqnB c = true) : c.length ≤ 4 ∧ ∀ x ∈ c, -9 ≤ x ∧ x ≤ 9 := by
  obtain ⟨l1, l2, hcs⟩ := eqn_parts h
  refine ⟨l2, fun x hx => ?_⟩
  obtain ⟨i, hi, rfl⟩ := List.mem_iff_getElem.1 hx
  have := hcs i hi
  omega

set_option maxRecDepth 20000 in
set_option maxHeartbeats 3200000 in
theorem si_impl (a0 : Option Addr) (c0 : Nat) (c : List Int) (n : Int) (w : World) (h0 : Ints w a0 c0 c) (hl : c.length ≤ 2000000) :
    Calls Try.prog 35 #[.slice a0 c.length c0, .int .i64 n] w (GaveQ w (siL c n) (siB c n)) := by
  have CE := Lib.hid (fun w h => isEqn_any a0 c0 c w h hl)
  have hM0 := OwnR.made (w := w) (B := w.heap.size) (g := w.heap.size) rfl (Nat.le_refl _) (fun i => ([] : List (List Int)).getD i [])
  obtain ⟨W1, hW1⟩ : ∃ W, W = (w.alloc (.cells #[] 24)).alloc (.cells #[.slice (some ⟨w.heap.size, 0, none⟩) 0 0] 28) := ⟨_, rfl⟩
  have hM := hM0.below ((Below.refl _ _).alloc (Nat.le_refl _) (.cells #[.slice (some ⟨w.heap.size, 0, none⟩) 0 0] 28)) (Nat.le_refl _)
  have hbo : W1.heap[w.heap.size + 1]? = some (.cells #[.slice (some ⟨w.heap.size, 0, none⟩) 0 0] 28 (0, 0)) := by rw [hW1]; exact new_at (by simp)
  have hB : Below w.heap.size w W1 := by rw [hW1]; exact ((Below.refl w.heap.size w).alloc (Nat.le_refl _) _).alloc (by simp) _
  have hsz : w.heap.size + 2 = W1.heap.size := by rw [hW1]; simp
  have hsz1 : w.heap.size + 2 ≤ W1.heap.size := by omega
  rw [← hW1] at hM
  have h1 := h0.below hB (Nat.le_refl _)
  have q1 := cell_of_one hbo
  have HW := Lib.hid hW1
  have HM := Lib.hid hM
  have HBO := Lib.hid hbo
  clear hW1 hM hM0 hbo hsz
  obtain ⟨r, hr⟩ : ∃ r, r = siL c n := ⟨_, rfl⟩
  obtain ⟨b, hb⟩ : ∃ r, r = siB c n := ⟨_, rfl⟩
  have HR := Lib.hid hr
  have HBB := Lib.hid hb
  rw [← hr, ← hb]
  clear hr hb
  cases he : eqnB c with
  | false =>
    have e1 : b = false := by rw [HBB.out]; simp [siB, he]
    have e2 : r = [] := by rw [HR.out]; simp [siL, siB, he]
    subst e1
    subst e2
    rw [he] at CE
    clear HBB HR he
    go_enter Try.func35, Try.ntmps35
    go_wp2_with fail
    rw [← HW.out]
    refine (CE.out _ h1).mono ?_; rintro e w2 ⟨rfl, rfl⟩
    go_wp2_with fail
    go_ret2
    exact ⟨_, _, _, rfl, HM.out, hB⟩
  | true =>
    rw [he] at CE
    cases hi : inB n 0 8 with
    | false =>
      have e1 : b = false := by rw [HBB.out]; simp [siB, hi]
      have e2 : r = [] := by rw [HR.out]; simp [siL, siB, hi]
      subst e1
      subst e2
      have HI := Lib.hid hi
      clear HBB HR he hi
      go_enter Try.func35, Try.ntmps35
      go_wp2_with fail
      rw [← HW.out]
      refine (CE.out _ h1).mono ?_; rintro e w2 ⟨rfl, rfl⟩
      go_wp2_with fail
      refine (within_is n 0 8 false HI.out _).mono ?_; rintro e w2 ⟨rfl, rfl⟩
      go_wp2_with fail
      go_ret2
      exact ⟨_, _, _, rfl, HM.out, hB⟩
    | true =>
      have e1 : b = true := by rw [HBB.out]; simp [siB, he, hi]
      have e2 : r = solL c n.toNat (fun _ _ => true) c.length [] := by rw [HR.out]; simp [siL, siB, he, hi]
      obtain ⟨l4, lb⟩ := eqn_bd he
      have HI := Lib.hid hi
      obtain ⟨n1, n2⟩ := inB_true.1 hi
      obtain ⟨m, rfl⟩ := Int.eq_ofNat_of_zero_le n1
      rw [Int.toNat_natCast] at e2
      subst e1
      have CS := Lib.hid (sol_any w a0 c0 c m 110 #[.pointer (some ⟨w.heap.size + 1, 0, none⟩)] (StQ w.heap.size (w.heap.size + 1)) (fun _ => false) w.heap.size W1 (by omega) l4 lb h0 (Nat.le_refl _) hB (by omega)
        (fun _ _ => rfl)
        (Lib.hid (fun bc bk bx bn bt bm w' k1 k2 k3 k4 k5 k6 hb' => ⟨some ⟨w.heap.size, 0, none⟩, 0, [], one_below HBO.out hb' (Nat.le_refl _), HM.out.below hb' (Nat.le_refl _), (fun b hb => by
          have e : w.heap.size = b := by simpa [Value.ownBlock] using hb
          subst e
          exact ⟨by omega, by omega, by omega, by omega, by omega, by omega, by omega⟩), (fun i v b hv _ => by simp at hv), by omega⟩))
        (Lib.hid (fun bc bk bx bn bt bm L w j v h => h.set j v)) (Lib.hid (fun bc bk bx bn bt bm L w h => h.drew))
        (Lib.hid (take_q w w.heap.size (w.heap.size + 1) a0 c0 c m (Nat.le_refl _) (by omega) l4)))
      rw [upTo_none, ← e2] at CS
      clear HBB HR he hi e2 lb
      go_enter Try.func35, Try.ntmps35
      go_wp2_with fail
      rw [← HW.out]
      refine (CE.out _ h1).mono ?_; rintro e w2 ⟨rfl, rfl⟩
      go_wp2_with fail
      refine (within_is (m : Int) 0 8 true HI.out _).mono ?_; rintro e w2 ⟨rfl, rfl⟩
      go_wp2_with fail
      refine CS.out.mono ?_; rintro e w3 ⟨rfl, ⟨_, _, _, _, _, _, ao, co, vs, bq⟩, b3⟩
      have q3 := cell_of_one bq.ho
      clear CS
      go_wp2_with fail
      go_ret2
      exact ⟨_, _, _, rfl, bq.oo, b3⟩
end Go.Proofs.Ytokpgbpdmfibjaa
