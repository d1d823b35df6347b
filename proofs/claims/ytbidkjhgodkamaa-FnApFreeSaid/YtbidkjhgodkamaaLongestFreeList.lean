/-
The program's LongestFreeList returns what the reference's returns, for all arguments. No condition.
-/
import Derived.Test.YtbidkjhgodkamaaLfl
import Derived.Test.YtbidkjhgodkamaaHelp
namespace Go.Proofs.Ytbidkjhgodkamaa
open Go.ChangeShapes Go.RowKit

/-- The longest list of numbers below n without progressions. -/
noncomputable def lfR (n : Nat) : List Int := lfGo n n [] []
noncomputable def lfL (n : Int) : List Int := if inB n 0 14 = true then lfR n.toNat else []
theorem lfL_len (n : Int) : (lfL n).length ≤ 2000000 := by
  unfold lfL lfR
  split
  · rename_i h
    obtain ⟨h1, h2⟩ := inB_true.1 h
    have := lfGo_len n.toNat n.toNat [] []
    simp at this
    omega
  · simp
theorem upd_nil' (r : List Int) : upd [] r = r := by
  unfold upd
  split
  · rfl
  · rename_i h
    have : r.length = 0 := by simp at h; simp [h]
    exact (List.eq_nil_of_length_eq_zero this).symm

set_option maxHeartbeats 800000 in
theorem lf_spec (n : Int) (w : World) :
    Calls Try.prog 117 #[.int .i64 n] w (GaveIB w (lfL n) (inB n 0 14)) := by
  have hm := OwnI.made w w.heap.size (Nat.le_refl _)
  have hb := (Below.refl w.heap.size w).alloc (Nat.le_refl _) (.cells #[] 3)
  cases h0 : inB n 0 14 with
  | false =>
    have e : lfL n = [] := by simp [lfL, h0]
    rw [e]; clear e
    go_enter Try.func117, Try.ntmps117
    go_wp2_with fail
    refine (l1In_is n 0 14 false h0 _).mono ?_; rintro e w' ⟨rfl, rfl⟩
    go_wp2_with fail
    go_ret2
    exact ⟨_, _, rfl, hm, hb⟩
  | true =>
    have e : lfL n = lfR n.toNat := by simp [lfL, h0]
    rw [e]; clear e
    obtain ⟨g1, g2⟩ := inB_true.1 h0
    obtain ⟨n, rfl⟩ := Int.eq_ofNat_of_zero_le g1
    simp only [Int.toNat_natCast]
    have C := Lib.hid (l23List_any n (by omega) w.heap.size n 0 [] (lfR n) _ _ _ rfl (by omega) (by omega) (by simp) (by simp) hm)
    obtain ⟨r, hr⟩ : ∃ r, r = lfR n := ⟨_, rfl⟩
    rw [← hr] at C ⊢
    have H0 := Lib.hid h0
    clear hr hm h0
    go_enter Try.func117, Try.ntmps117
    go_wp2_with fail
    refine (l1In_is (n : Int) 0 14 true H0.out _).mono ?_; rintro e w' ⟨rfl, rfl⟩
    go_wp2_with fail
    refine C.out.mono ?_; rintro e w1 ⟨a1, c1, rfl, o1, b1⟩
    go_wp2_with fail
    go_ret2
    exact ⟨_, _, rfl, o1, nx hb b1⟩

set_option maxHeartbeats 1600000 in
theorem lf_impl (n : Int) (w : World) :
    Calls Try.prog 116 #[.int .i64 n] w (GaveIB w (lfL n) (inB n 0 14)) := by
  have hb1 := (Below.refl w.heap.size w).alloc (Nat.le_refl _) (.cells #[.int .i64 n] 3)
  cases h0 : inB n 0 14 with
  | false =>
    have e : lfL n = [] := by simp [lfL, h0]
    rw [e]; clear e
    have hm := OwnI.made (w.alloc (.cells #[.int .i64 n] 3)) w.heap.size (by simp)
    rw [show (w.alloc (.cells #[.int .i64 n] 3)).heap.size = w.heap.size + 1 by simp] at hm
    go_enter Try.func116, Try.ntmps116
    go_wp2_with fail
    refine (within_is n 0 14 false h0 _).mono ?_; rintro e w' ⟨rfl, rfl⟩
    go_wp2_with fail
    go_ret2
    exact ⟨_, _, rfl, hm, hb1.alloc (by simp) _⟩
  | true =>
    have e : lfL n = lfR n.toNat := by simp [lfL, h0]
    rw [e]; clear e
    obtain ⟨g1, g2⟩ := inB_true.1 h0
    obtain ⟨n, rfl⟩ := Int.eq_ofNat_of_zero_le g1
    simp only [Int.toNat_natCast]
    obtain ⟨r, hr⟩ : ∃ r, r = lfR n := ⟨_, rfl⟩
    have hlf : lfGo n (n - 0) [] [] = r := hr.symm
    rw [← hr]
    have H0 := Lib.hid h0
    have HL := Lib.hid hlf
    clear hr h0 hlf
    go_enter Try.func116, Try.ntmps116
    go_wp2_with fail
    refine (within_is (n : Int) 0 14 true H0.out _).mono ?_; rintro e w' ⟨rfl, rfl⟩
    go_wp2_with fail
    refine (lfl_cl n (by omega) w.heap.size (w.heap.size + 1 + 1) w.heap.size (w.heap.size + 1 + 1 + 1) n 0 [] r [] _ (some ⟨w.heap.size + 1, 0, none⟩) 0 0 _ HL.out (by omega) (by omega) (by simp) (by simp) ?hsz ?hc ?hb ?env).mono ?_
    case hsz => simp; omega
    case hc => exact ⟨OwnI.made_at (by simp) (by omega), fun x hx => by simp at hx; subst hx; (first | (simp; done) | (simp; omega))⟩
    case hb => exact ⟨(((OwnI.made_at (by simp) (by omega)).alloc _).alloc _).alloc _, fun x hx => by simp at hx; subst hx; (first | (simp; done) | (simp; omega))⟩
    case env => exact ⟨one_alloc (one_alloc (new_at (by simp))), one_alloc (one_alloc (one_alloc (one_alloc (new_at rfl)))), one_alloc (new_at (by simp)), by omega, by omega⟩
    rw [upd_nil']
    rintro e w1 ⟨rfl, ⟨a1, c1, ox, env1⟩, gr⟩
    have q := cell_of_one env1.hb
    have hb5 := (((hb1.alloc (by simp) (.cells #[] 3)).alloc (by simp; omega) (.cells #[.slice (some ⟨w.heap.size + 1, 0, none⟩) 0 0] 24)).alloc (by simp; omega) (.cells #[.func (.func 244) #[] #[.pointer (some ⟨w.heap.size + 1 + 1, 0, none⟩), .pointer (some ⟨w.heap.size, 0, none⟩), .pointer (some ⟨w.heap.size + 1 + 1 + 1, 0, none⟩)]] 116)).alloc (by simp; omega) (.cells #[] 3)
    have hbF := hb5.grown gr (by simp; omega) (fun q hq => by simp at hq; omega)
    have oF := ox.1
    clear hb5 hb1 gr env1 ox
    go_wp2_with fail
    go_ret2
    exact ⟨_, _, rfl, oF, hbF⟩


end Go.Proofs.Ytbidkjhgodkamaa
