/-
Contracts of both LongestColorings. No condition.
-/
import Derived.Test.YtbidkjhgodkamaaLng
namespace Go.Proofs.Ytbidkjhgodkamaa
open Go.RowKit Go.ChangeShapes

/-- The longest coloring in k colors. -/
def lcR (k : Nat) : List Int := (lcF k 16 [] 0).getD []
theorem lcR_1 : lcF 1 16 [] 0 = some (lcR 1) := by
  have h : (lcF 1 16 [] 0).isSome = true := by decide +kernel
  unfold lcR
  cases h2 : lcF 1 16 [] 0 with
  | none => rw [h2] at h; cases h
  | some r => rfl
theorem lcR_2 : lcF 2 16 [] 0 = some (lcR 2) := by
  have h : (lcF 2 16 [] 0).isSome = true := by decide +kernel
  unfold lcR
  cases h2 : lcF 2 16 [] 0 with
  | none => rw [h2] at h; cases h
  | some r => rfl
theorem lcR_3 : lcF 3 16 [] 0 = some (lcR 3) := by
  have h : (lcF 3 16 [] 0).isSome = true := by decide +kernel
  unfold lcR
  cases h2 : lcF 3 16 [] 0 with
  | none => rw [h2] at h; cases h
  | some r => rfl
theorem lcR_all {k : Nat} (h1 : 1 ≤ k) (h2 : k ≤ 3) : lcF k 16 [] 0 = some (lcR k) := by
  have : k = 1 ∨ k = 2 ∨ k = 3 := by omega
  rcases this with rfl | rfl | rfl
  · exact lcR_1
  · exact lcR_2
  · exact lcR_3
theorem upd_nil (r : List Int) : upd [] r = r := by
  unfold upd
  split
  · rfl
  · rename_i h
    have : r.length = 0 := by simp at h; simp [h]
    exact (List.eq_nil_of_length_eq_zero this).symm
theorem lcR_len {k : Nat} (h1 : 1 ≤ k) (h2 : k ≤ 3) : (lcR k).length ≤ 2000000 := by
  have h : (lcR 1).length ≤ 20 ∧ (lcR 2).length ≤ 20 ∧ (lcR 3).length ≤ 20 := by decide +kernel
  have : k = 1 ∨ k = 2 ∨ k = 3 := by omega
  rcases this with rfl | rfl | rfl <;> omega

def lgL (k : Int) : List Int := if inB k 1 3 = true then lcR k.toNat else []
theorem lgL_len (k : Int) : (lgL k).length ≤ 2000000 := by
  unfold lgL
  split
  · rename_i h
    obtain ⟨h1, h2⟩ := inB_true.1 h
    exact lcR_len (by omega) (by omega)
  · simp

set_option maxHeartbeats 800000 in
theorem lg_spec (k : Int) (w : World) :
    Calls Try.prog 96 #[.int .i64 k] w (GaveIB w (lgL k) (inB k 1 3)) := by
  have hm := OwnI.made w w.heap.size (Nat.le_refl _)
  have hb := (Below.refl w.heap.size w).alloc (Nat.le_refl _) (.cells #[] 3)
  cases h0 : inB k 1 3 with
  | false =>
    have e : lgL k = [] := by simp [lgL, h0]
    rw [e]; clear e
    go_enter Try.func96, Try.ntmps96
    go_wp2_with fail
    refine (l1In_is k 1 3 false h0 _).mono ?_; rintro e w' ⟨rfl, rfl⟩
    go_wp2_with fail
    go_ret2
    exact ⟨_, _, rfl, hm, hb⟩
  | true =>
    have e : lgL k = lcR k.toNat := by simp [lgL, h0]
    rw [e]; clear e
    obtain ⟨g1, g2⟩ := inB_true.1 h0
    obtain ⟨k, rfl⟩ := Int.eq_ofNat_of_zero_le (by omega : 0 ≤ k)
    simp only [Int.toNat_natCast]
    have C := Lib.hid (l24Longest_any k (by omega) w.heap.size 16 [] (lcR k) 0 _ _ _ (lcR_all (by omega) (by omega)) (by simp) (by omega) (by simp) hm)
    obtain ⟨r, hr⟩ : ∃ r, r = lcR k := ⟨_, rfl⟩
    rw [← hr] at C ⊢
    have H0 := Lib.hid h0
    clear hr hm h0
    go_enter Try.func96, Try.ntmps96
    go_wp2_with fail
    refine (l1In_is (k : Int) 1 3 true H0.out _).mono ?_; rintro e w' ⟨rfl, rfl⟩
    go_wp2_with fail
    refine C.out.mono ?_; rintro e w1 ⟨a1, c1, rfl, o1, b1⟩
    go_wp2_with fail
    go_ret2
    exact ⟨_, _, rfl, o1, nx hb b1⟩

set_option maxHeartbeats 1600000 in
theorem lg_impl (k : Int) (w : World) :
    Calls Try.prog 95 #[.int .i64 k] w (GaveIB w (lgL k) (inB k 1 3)) := by
  have hb1 := (Below.refl w.heap.size w).alloc (Nat.le_refl _) (.cells #[.int .i64 k] 3)
  cases h0 : inB k 1 3 with
  | false =>
    have e : lgL k = [] := by simp [lgL, h0]
    rw [e]; clear e
    have hm := OwnI.made (w.alloc (.cells #[.int .i64 k] 3)) w.heap.size (by simp)
    rw [show (w.alloc (.cells #[.int .i64 k] 3)).heap.size = w.heap.size + 1 by simp] at hm
    go_enter Try.func95, Try.ntmps95
    go_wp2_with fail
    refine (within_is k 1 3 false h0 _).mono ?_; rintro e w' ⟨rfl, rfl⟩
    go_wp2_with fail
    go_ret2
    exact ⟨_, _, rfl, hm, hb1.alloc (by simp) _⟩
  | true =>
    have e : lgL k = lcR k.toNat := by simp [lgL, h0]
    rw [e]; clear e
    obtain ⟨g1, g2⟩ := inB_true.1 h0
    obtain ⟨k, rfl⟩ := Int.eq_ofNat_of_zero_le (by omega : 0 ≤ k)
    simp only [Int.toNat_natCast]
    obtain ⟨r, hr⟩ : ∃ r, r = lcR k := ⟨_, rfl⟩
    have hlc := lcR_all (k := k) (by omega) (by omega)
    rw [← hr] at hlc ⊢
    have H0 := Lib.hid h0
    have HL := Lib.hid hlc
    clear hr h0 hlc
    go_enter Try.func95, Try.ntmps95
    go_wp2_with fail
    refine (within_is (k : Int) 1 3 true H0.out _).mono ?_; rintro e w' ⟨rfl, rfl⟩
    go_wp2_with fail
    refine (lng_cl k (by omega) w.heap.size (w.heap.size + 1 + 1) w.heap.size (w.heap.size + 1 + 1 + 1) 16 [] r [] 0 _ (some ⟨w.heap.size + 1, 0, none⟩) 0 0 _ HL.out (by simp) (by omega) ?hsz ?hc ?hb ?env).mono ?_
    case hsz => simp; omega
    case hc => exact ⟨OwnI.made_at (by simp) (by omega), fun x hx => by simp at hx; subst hx; (first | (simp; done) | (simp; omega))⟩
    case hb => exact ⟨(((OwnI.made_at (by simp) (by omega)).alloc _).alloc _).alloc _, fun x hx => by simp at hx; subst hx; (first | (simp; done) | (simp; omega))⟩
    case env => exact ⟨one_alloc (one_alloc (new_at (by simp))), one_alloc (one_alloc (one_alloc (one_alloc (new_at rfl)))), one_alloc (new_at (by simp)), by omega, by omega⟩
    rw [upd_nil]
    rintro e w1 ⟨rfl, ⟨a1, c1, ox, env1⟩, gr⟩
    have q := cell_of_one env1.hb
    have hb5 := (((hb1.alloc (by simp) (.cells #[] 3)).alloc (by simp; omega) (.cells #[.slice (some ⟨w.heap.size + 1, 0, none⟩) 0 0] 24)).alloc (by simp; omega) (.cells #[.func (.func 235) #[] #[.pointer (some ⟨w.heap.size + 1 + 1, 0, none⟩), .pointer (some ⟨w.heap.size, 0, none⟩), .pointer (some ⟨w.heap.size + 1 + 1 + 1, 0, none⟩)]] 116)).alloc (by simp; omega) (.cells #[] 3)
    have hbF := hb5.grown gr (by simp; omega) (fun q hq => by simp at hq; omega)
    have oF := ox.1
    clear hb5 hb1 gr env1 ox
    go_wp2_with fail
    go_ret2
    exact ⟨_, _, rfl, oF, hbF⟩
end Go.Proofs.Ytbidkjhgodkamaa
