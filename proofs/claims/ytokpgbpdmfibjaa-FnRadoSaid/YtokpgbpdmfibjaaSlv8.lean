/-
The reference's SolutionsIn and MonochromeSolution. Conditions: lengths at most 2000000.
-/
import Derived.Test.YtokpgbpdmfibjaaSlv5
import Derived.Test.YtokpgbpdmfibjaaSlv7
namespace Go.Proofs.Ytokpgbpdmfibjaa
open Go.RowKit Go.ChangeShapes
set_option linter.unusedVariables false

theorem okM_nil (x : List Int) (y : Int) : okM [] x y = true := by simp [okM]
theorem solL_okn (c : List Int) (n : Nat) : ∀ (d : Nat) (x : List Int), solL c n (okM []) d x = solL c n (fun _ _ => true) d x
  | 0, _ => rfl
  | d + 1, x => by
    simp only [solL, okM_nil, if_true]
    congr 1
    funext y
    exact solL_okn c n d _
set_option maxRecDepth 20000 in
set_option maxHeartbeats 3200000 in
theorem si_spec (a0 : Option Addr) (c0 : Nat) (c : List Int) (n : Int) (w : World) (h0 : Ints w a0 c0 c) (hl : c.length ≤ 2000000) :
    Calls Try.prog 36 #[.slice a0 c.length c0, .int .i64 n] w (GaveQ w (siL c n) (siB c n)) := by
  have CE := Lib.hid (fine_any a0 c0 c w h0 hl)
  have hM0 := OwnR.made (w := w) (B := w.heap.size) (g := w.heap.size) rfl (Nat.le_refl _) (fun i => ([] : List (List Int)).getD i [])
  have hbm := (Below.refl w.heap.size w).alloc (Nat.le_refl _) (.cells #[] 24)
  obtain ⟨r, hr⟩ : ∃ r, r = siL c n := ⟨_, rfl⟩
  obtain ⟨b, hb⟩ : ∃ r, r = siB c n := ⟨_, rfl⟩
  have HR := Lib.hid hr
  have HBB := Lib.hid hb
  rw [← hr, ← hb]
  clear hr hb
  cases he : eqnB c with
  | false =>
    have e1 : b = false := by rw [HBB.out]; simp [siB, he]
    have e2 : r = [] := by rw [HR.out]; simp [siL, siB, he]
    subst e1
    subst e2
    rw [he] at CE
    clear HBB HR he
    go_enter Try.func36, Try.ntmps36
    go_wp2_with fail
    refine CE.out.mono ?_; rintro e w2 ⟨rfl, rfl⟩
    go_wp2_with fail
    go_ret2
    exact ⟨_, _, _, rfl, hM0, hbm⟩
  | true =>
    rw [he] at CE
    cases hi : inB n 0 8 with
    | false =>
      have e1 : b = false := by rw [HBB.out]; simp [siB, hi]
      have e2 : r = [] := by rw [HR.out]; simp [siL, siB, hi]
      subst e1
      subst e2
      have HI := Lib.hid hi
      clear HBB HR he hi
      go_enter Try.func36, Try.ntmps36
      go_wp2_with fail
      refine CE.out.mono ?_; rintro e w2 ⟨rfl, rfl⟩
      go_wp2_with fail
      refine (l1In_is n 0 8 false HI.out _).mono ?_; rintro e w2 ⟨rfl, rfl⟩
      go_wp2_with fail
      go_ret2
      exact ⟨_, _, _, rfl, hM0, hbm⟩
    | true =>
      have e1 : b = true := by rw [HBB.out]; simp [siB, he, hi]
      have e2 : r = solL c n.toNat (fun _ _ => true) c.length [] := by rw [HR.out]; simp [siL, siB, he, hi]
      obtain ⟨l4, lb⟩ := eqn_bd he
      have HI := Lib.hid hi
      obtain ⟨n1, n2⟩ := inB_true.1 hi
      obtain ⟨m, rfl⟩ := Int.eq_ofNat_of_zero_le n1
      rw [Int.toNat_natCast] at e2
      subst e1
      obtain ⟨W2, hW2⟩ : ∃ W, W = (w.alloc (.cells #[] 3)).alloc (.cells #[] 3) := ⟨_, rfl⟩
      have hB2 : Below w.heap.size w W2 := by rw [hW2]; exact ((Below.refl w.heap.size w).alloc (Nat.le_refl _) _).alloc (by simp) _
      have hI1 : Ints W2 (some ⟨w.heap.size, 0, none⟩) 0 [] := Ints.nil _ _ _ (by omega)
      have hI2 : OwnI W2 w.heap.size (some ⟨w.heap.size + 1, 0, none⟩) 0 [] := by rw [hW2]; exact OwnI.made_at (by simp) (by omega)
      have hpw : m ^ c.length ≤ 4096 := by
        have k1 : m ^ c.length ≤ 8 ^ c.length := Nat.pow_le_pow_left (by omega) _
        have k2 : 8 ^ c.length ≤ 8 ^ 4 := Nat.pow_le_pow_right (by decide) l4
        have k3 : 8 ^ 4 = 4096 := by decide
        omega
      have CF := Lib.hid (find_any W2 a0 c0 c m (some ⟨w.heap.size, 0, none⟩) 0 [] (h0.below hB2 (Nat.le_refl _)) hI1 (by omega) l4 lb (.inl rfl) c.length 10000 w.heap.size [] (some ⟨w.heap.size + 1, 0, none⟩) 0 r W2 (by simp) (by
        rw [solL_okn, e2, List.take_of_length_le]
        have := solL_len c m (fun _ _ => true) c.length []
        omega) (Nat.le_refl _) (by simp) hI2 hB2.size (Below.refl _ _) (by omega))
      simp only [List.length_nil, Int.cast_ofNat_Int] at CF
      have HW2 := Lib.hid hW2
      clear HBB HR he hi e2 lb hM0 hbm hW2 hI1 hI2 hpw
      go_enter Try.func36, Try.ntmps36
      go_wp2_with fail
      refine CE.out.mono ?_; rintro e w2 ⟨rfl, rfl⟩
      go_wp2_with fail
      refine (l1In_is (m : Int) 0 8 true HI.out _).mono ?_; rintro e w2 ⟨rfl, rfl⟩
      go_wp2_with fail
      rw [← HW2.out]
      refine CF.out.mono ?_; rintro e w3 ⟨a', c', vs, rfl, o3, b3⟩
      go_wp2_with fail
      go_ret2
      exact ⟨_, _, _, rfl, o3, nxB hB2 b3 hB2.size⟩

set_option maxRecDepth 20000 in
set_option maxHeartbeats 3200000 in
theorem mo_spec (a0 : Option Addr) (c0 : Nat) (c : List Int) (a1 : Option Addr) (c1 : Nat) (cs : List Int) (w : World) (h0 : Ints w a0 c0 c) (k0 : Ints w a1 c1 cs) (hl : c.length ≤ 2000000) (hlc : cs.length ≤ 2000000) :
    Calls Try.prog 44 #[.slice a0 c.length c0, .slice a1 cs.length c1] w (GaveIB w (moL c cs) (moB c cs)) := by
  have CE := Lib.hid (fine_any a0 c0 c w h0 hl)
  have hM0 := OwnI.made w w.heap.size (Nat.le_refl _)
  have hbm := (Below.refl w.heap.size w).alloc (Nat.le_refl _) (.cells #[] 3)
  obtain ⟨r, hr⟩ : ∃ r, r = moL c cs := ⟨_, rfl⟩
  obtain ⟨b, hb⟩ : ∃ r, r = moB c cs := ⟨_, rfl⟩
  have HR := Lib.hid hr
  have HBB := Lib.hid hb
  rw [← hr, ← hb]
  clear hr hb
  cases he : eqnB c with
  | false =>
    have e1 : b = false := by rw [HBB.out]; simp [moB, moF, he]
    have e2 : r = [] := by rw [HR.out]; simp [moL, moF, he]
    subst e1
    subst e2
    rw [he] at CE
    clear HBB HR he
    go_enter Try.func44, Try.ntmps44
    go_wp2_with fail
    refine CE.out.mono ?_; rintro e w2 ⟨rfl, rfl⟩
    go_wp2_with fail
    go_ret2
    exact ⟨_, _, rfl, hM0, hbm⟩
  | true =>
    rw [he] at CE
    cases hi : inB (cs.length : Int) 1 12 with
    | false =>
      have e1 : b = false := by rw [HBB.out]; simp [moB, moF, hi]
      have e2 : r = [] := by rw [HR.out]; simp [moL, moF, hi]
      subst e1
      subst e2
      have hw := inB_false.1 hi
      clear HBB HR he hi
      by_cases hz : cs.length = 0
      · have hz1 : ((cs.length : Int) == 0) = true := by simp [hz]
        clear hw hz
        go_enter Try.func44, Try.ntmps44
        go_wp2_with fail
        refine CE.out.mono ?_; rintro e w2 ⟨rfl, rfl⟩
        go_wp2_with fail
        go_ret2
        exact ⟨_, _, rfl, hM0, hbm⟩
      · have hz1 : ((cs.length : Int) == 0) = false := by rw [beq_eq_false_iff_ne]; omega
        have hz2 : (12 : Int) < cs.length := by omega
        have hz3 : 12 < cs.length := by omega
        clear hw hz
        go_enter Try.func44, Try.ntmps44
        go_wp2_with fail
        refine CE.out.mono ?_; rintro e w2 ⟨rfl, rfl⟩
        go_wp2_with fail
        go_ret2
        exact ⟨_, _, rfl, hM0, hbm⟩
    | true =>
      obtain ⟨l4, lb⟩ := eqn_bd he
      obtain ⟨n1, n2⟩ := inB_true.1 hi
      have hz1 : ((cs.length : Int) == 0) = false := by rw [beq_eq_false_iff_ne]; omega
      have hz2 : ¬ (12 : Int) < cs.length := by omega
      have hz3 : ¬ 12 < cs.length := by omega
      obtain ⟨W2, hW2⟩ : ∃ W, W = w.alloc (.cells #[] 3) := ⟨_, rfl⟩
      rw [← hW2] at hM0 hbm
      have hF : (solL c cs.length (okM cs) c.length []).take 1 = ((solL c cs.length (fun _ _ => true) c.length []).find? (mono cs)).toList := by
        rw [solL_mono c cs.length cs c.length [] rfl, ← find_head]
        cases h : (solL c cs.length (fun _ _ => true) c.length []).filter (mono cs) with
        | nil => rfl
        | cons x t => rfl
      have e1 : b = ((solL c cs.length (fun _ _ => true) c.length []).find? (mono cs)).isSome := by rw [HBB.out]; simp [moB, moF, he, hi]
      have e2 : r = ((solL c cs.length (fun _ _ => true) c.length []).find? (mono cs)).getD [] := by rw [HR.out]; simp [moL, moF, he, hi]
      obtain ⟨o, ho⟩ : ∃ o, o = (solL c cs.length (fun _ _ => true) c.length []).find? (mono cs) := ⟨_, rfl⟩
      rw [← ho] at hF e1 e2
      have CF := Lib.hid (find_any W2 a0 c0 c cs.length a1 c1 cs (h0.below hbm (Nat.le_refl _)) (k0.below hbm (Nat.le_refl _)) (by omega) l4 lb (.inr rfl) c.length 1 w.heap.size [] (some ⟨w.heap.size, 0, none⟩) 0 o.toList W2 (by simp) hF (by omega) (by simp) hM0 hbm.size (Below.refl _ _) (by omega))
      simp only [List.length_nil, Int.natCast_one] at CF
      have HW2 := Lib.hid hW2
      clear HBB HR he hi hF ho lb n1 n2 hW2
      cases o with
      | none =>
        have e3 : b = false := e1
        have e4 : r = [] := e2
        clear e1 e2
        subst e3
        subst e4
        simp only [Option.toList_none, List.length_nil] at CF
        go_enter Try.func44, Try.ntmps44
        go_wp2_with fail
        refine CE.out.mono ?_; rintro e w2 ⟨rfl, rfl⟩
        go_wp2_with fail
        rw [← HW2.out]
        refine CF.out.mono ?_; rintro e w3 ⟨a', c', vs, rfl, o3, b3⟩
        have hM3 := (hM0.below b3 (Nat.le_refl _))
        have hn := OwnI.made w3 w.heap.size (by have := b3.size; have := hbm.size; omega)
        go_wp2_with fail
        go_ret2
        exact ⟨_, _, rfl, hn, (nxB hbm b3 hbm.size).alloc (by have := b3.size; have := hbm.size; omega) _⟩
      | some z =>
        have e3 : b = true := e1
        have e4 : r = z := e2
        clear e1 e2
        subst e3
        subst e4
        simp only [Option.toList_some, List.length_cons, List.length_nil, Nat.zero_add] at CF
        go_enter Try.func44, Try.ntmps44
        go_wp2_with fail
        refine CE.out.mono ?_; rintro e w2 ⟨rfl, rfl⟩
        go_wp2_with fail
        rw [← HW2.out]
        refine CF.out.mono ?_; rintro e w3 ⟨a', c', vs, rfl, o3, b3⟩
        obtain ⟨ai, ci, k1, k2⟩ := o3.row 0 (by omega)
        have hcells := o3.rd.cells
        rcases hcells with h | ⟨bb, off, rfl, hbB, hcell⟩
        · omega
        have d1 := (hcell 0 (by omega)).trans k1
        simp only [List.getD_cons_zero, Nat.add_zero] at d1 k2
        have HK2 := Lib.hid k2
        clear hcell k1 k2 o3 CF
        go_wp2_with fail
        go_ret2
        exact ⟨_, _, rfl, HK2.out, nxB hbm b3 hbm.size⟩
end Go.Proofs.Ytokpgbpdmfibjaa
