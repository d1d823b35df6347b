/-
The program's LongestFreeList returns what the reference's returns, for all arguments. No condition.
-/
import Derived.Test.YtheeglaocflgmaaLfl
import Derived.Test.YtheeglaocflgmaaHelp
namespace Go.Proofs.Ytheeglaocflgmaa
open Go.ChangeShapes Go.RowKit

/-- The longest list of numbers below n without progressions. -/
noncomputable def lfR (n : Nat) : List Int := lfGo n n [] []
noncomputable def lfL (n : Int) : List Int := if inB n 0 14 = true then lfR n.toNat else []
theorem lfL_len (n : Int) : (lfL n).length ≤ 2000000 := by
  unfold lfL lfR
  split
  · rename_i h
    obtain ⟨h1, h2⟩ := inB_true.1 h
    have := lfGo_len n.toNat n.toNat [] []
    simp at this
    omega
  · simp
theorem upd_nil' (r : List Int) : upd [] r = r := by
  unfold upd
  split
  · rfl
  · rename_i h
    have : r.length = 0 := by simp at h; simp [h]
    exact (List.eq_nil_of_length_eq_zero this).symm

set_option maxHeartbeats 800000 in
theorem lf_spec (n : Int) (w : World) :
    Calls Try.prog 27 #[.int .i64 n] w (GaveIB w (lfL n) (inB n 0 14)) := by
  have hm := OwnI.made w w.heap.size (Nat.le_refl _)
  have hb := (Below.refl w.heap.size w).alloc (Nat.le_refl _) (.cells #[] 3)
  cases h0 : inB n 0 14 with
  | false =>
    have e : lfL n = [] := by simp [lfL, h0]
    rw [e]; clear e
    go_enter Try.func27, Try.ntmps27
    go_wp2_with fail
    refine (l1In_is n 0 14 false h0 _).mono ?_; rintro e w' ⟨rfl, rfl⟩
    go_wp2_with fail
    go_ret2
    exact ⟨_, _, rfl, hm, hb⟩
  | true =>
    have e : lfL n = lfR n.toNat := by simp [lfL, h0]
    rw [e]; clear e
    obtain ⟨g1, g2⟩ := inB_true.1 h0
    obtain ⟨n, rfl⟩ := Int.eq_ofNat_of_zero_le g1
    simp only [Int.toNat_natCast]
    have C := Lib.hid (l23List_any n (by omega) w.heap.size n 0 [] (lfR n) _ _ _ rfl (by omega) (by omega) (by simp) (by simp) hm)
    obtain ⟨r, hr⟩ : ∃ r, r = lfR n := ⟨_, rfl⟩
    rw [← hr] at C ⊢
    have H0 := Lib.hid h0
    clear hr hm h0
    go_enter Try.func27, Try.ntmps27
    go_wp2_with fail
    refine (l1In_is (n : Int) 0 14 true H0.out _).mono ?_; rintro e w' ⟨rfl, rfl⟩
    go_wp2_with fail
    refine C.out.mono ?_; rintro e w1 ⟨a1, c1, rfl, o1, b1⟩
    go_wp2_with fail
    go_ret2
    exact ⟨_, _, rfl, o1, nx hb b1⟩

set_option maxHeartbeats 1600000 in
theorem lf_impl (n : Int) (w : World) :
    Calls Try.prog 28 #[.int .i64 n] w (GaveIB w (lfL n) (inB n 0 14)) := by
  have hb1 := (Below.refl w.heap.size w).alloc (Nat.le_refl _) (.cells #[.int .i64 n] 3)
  cases h0 : inB n 0 14 with
  | false =>
    have e : lfL n = [] := by simp [lfL, h0]
    rw [e]; clear e
    have hm := OwnI.made (w.alloc (.cells #[.int .i64 n] 3)) w.heap.size (by simp)
    rw [show (w.alloc (.cells #[.int .i64 n] 3)).heap.size = w.heap.size + 1 by simp] at hm
    go_enter Try.func28, Try.ntmps28
    go_wp2_with fail
    refine (within_is n 0 14 false h0 _).mono ?_; rintro e w' ⟨rfl, rfl⟩
    go_wp2_with fail
    go_ret2
    exact ⟨_, _, rfl, hm, hb1.alloc (by simp) _⟩
  | true =>
    have e : lfL n = lfR n.toNat := by simp [lfL, h0]
    rw [e]; clear e
    obtain ⟨g1, g2⟩ := inB_true.1 h0
    obtain ⟨n, rfl⟩ := Int.eq_ofNat_of_zero_le g1
    simp only [Int.toNat_natCast]
    obtain ⟨r, hr⟩ : ∃ r, r = lfR n := ⟨_, rfl⟩
    have hlf : lfGo n (n - 0) [] [] = r := hr.symm
    rw [← hr]
    have H0 := Lib.hid h0
    have HL := Lib.hid hlf
    clear hr h0 hlf
    go_enter Try.func28, Try.ntmps28
    go_wp2_with fail
    refine (within_is (n : Int) 0 14 true H0.out _).mono ?_; rintro e w' ⟨rfl, rfl⟩
    go_wp2_with fail
    refine (lfl_cl n (by omega) w.heap.size (w.heap.size + 1 + 1) w.heap.size (w.heap.size + 1 + 1 + 1) n 0 [] r [] _ (some ⟨w.heap.size + 1, 0, none⟩) 0 0 _ HL.out (by omega) (by omega) (by simp) (by simp) ?hsz ?hc ?hb ?env).mono ?_
    case hsz => simp; omega
    case hc => exact ⟨OwnI.made_at (by simp) (by omega), fun x hx => by simp at hx; subst hx; (first | (simp; done) | (simp; omega))⟩
    case hb => exact ⟨(((OwnI.made_at (by simp) (by omega)).alloc _).alloc _).alloc _, fun x hx => by simp at hx; subst hx; (first | (simp; done) | (simp; omega))⟩
    case env => exact ⟨one_alloc (one_alloc (new_at (by simp))), one_alloc (one_alloc (one_alloc (one_alloc (new_at rfl)))), one_alloc (new_at (by simp)), by omega, by omega⟩
    rw [upd_nil']
    rintro e w1 ⟨rfl, ⟨a1, c1, ox, env1⟩, gr⟩
    have q := cell_of_one env1.hb
    have hb5 := (((hb1.alloc (by simp) (.cells #[] 3)).alloc (by simp; omega) (.cells #[.slice (some ⟨w.heap.size + 1, 0, none⟩) 0 0] 26)).alloc (by simp; omega) (.cells #[.func (.func 58) #[] #[.pointer (some ⟨w.heap.size + 1 + 1, 0, none⟩), .pointer (some ⟨w.heap.size, 0, none⟩), .pointer (some ⟨w.heap.size + 1 + 1 + 1, 0, none⟩)]] 55)).alloc (by simp; omega) (.cells #[] 3)
    have hbF := hb5.grown gr (by simp; omega) (fun q hq => by simp at hq; omega)
    have oF := ox.1
    clear hb5 hb1 gr env1 ox
    go_wp2_with fail
    go_ret2
    exact ⟨_, _, rfl, oF, hbF⟩

set_option maxHeartbeats 800000 in
theorem walk_fnExactLongestFreeList (n : Int) (w : World) (_ : (Lit.int .i64 n).wf = true) :
    Calls Try.prog 7 #[.int .i64 n] w fun e w' => e = .returned (.bool true) ∧ Below w.heap.size w w' := by
  obtain ⟨r, hr⟩ : ∃ r, r = lfL n := ⟨_, rfl⟩
  obtain ⟨rb, hrb⟩ : ∃ r, r = inB n 0 14 := ⟨_, rfl⟩
  have hl : r.length ≤ 2000000 := by rw [hr]; exact lfL_len n
  have C1 := Lib.hid (lf_spec n)
  have C2 := Lib.hid (lf_impl n)
  rw [← hr, ← hrb] at C1 C2
  clear hr hrb
  go_enter Try.func7, Try.ntmps7
  go_wp2_with fail
  refine (C1.out _).mono ?_; rintro e w1 ⟨a1, c1, rfl, o1, b1⟩
  go_wp2_with fail
  refine (C2.out _).mono ?_; rintro e w2 ⟨a2, c2, rfl, o2, b2⟩
  go_wp2_with fail
  have o1' := o1.below b2 (Nat.le_refl _)
  have l1 := o1.lt
  refine (eqIntS_refl a2 a1 c2 c1 r _ o2.ints o1'.ints hl).mono ?_; rintro e w3 ⟨rfl, b3⟩
  go_wp2_with fail
  have o1'' := o1'.below b3 (Nat.le_refl _)
  have o2' := o2.below b3 (Nat.le_refl _)
  have hsz : w1.heap.size ≤ w3.heap.size := Nat.le_trans b2.size b3.size
  refine (markIntS_any w1.heap.size a2 c2 r 1 _ o2' hsz hl (by omega) (by omega)).mono ?_; rintro e w4 ⟨rfl, o4, b4, _⟩
  go_wp2_with fail
  have hin := o4.ints
  have o1d := o1''.below' b4 (fun x hx => (l1 x hx).2)
  refine (heldIntS_any a2 c2 1 r.length _ hin hl (by omega) (by omega)).mono ?_; rintro e w5 ⟨rfl, b5⟩
  go_wp2_with fail
  have o1e := o1d.below b5 (Nat.le_refl _)
  have o4' := o4.below b5 (Nat.le_refl _)
  refine (C2.out _).mono ?_; rintro e w6 ⟨a6, c6, rfl, o6, b6⟩
  go_wp2_with fail
  have o1f := o1e.below b6 (Nat.le_refl _)
  have o4'' := o4'.below b6 (Nat.le_refl _)
  refine (eqIntS_refl a6 a1 c6 c1 r _ o6.ints o1f.ints hl).mono ?_; rintro e w7 ⟨rfl, b7⟩
  go_wp2_with fail
  have o4d := o4''.below b7 (Nat.le_refl _)
  refine (heldIntS_any a2 c2 1 r.length _ o4d.ints hl (by omega) (by omega)).mono ?_; rintro e w8 ⟨rfl, b8⟩
  go_wp2_with fail
  go_ret
  exact ⟨rfl, nx (nx (nx (nx ((nx (nx b1 b2) b3).trans (b4.mono b1.size)) b5) b6) b7) b8⟩


end Go.Proofs.Ytheeglaocflgmaa
