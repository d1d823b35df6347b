/-
The program's ZeroColumns returns what the reference's returns, for all arguments. No condition.
-/
import Derived.Test.YtheeglaocflgmaaZc
import Derived.Test.YtheeglaocflgmaaHelp
namespace Go.Proofs.Ytheeglaocflgmaa
open Go.ChangeShapes Go.RowKit

theorem zc_len (xs : List Int) : (zcOf (zcF xs)).length ≤ 2000000 := by
  cases zcF xs with
  | none => simp [zcOf]
  | some m => have := mems_len m; simp only [zcOf]; omega

set_option maxHeartbeats 1600000 in
theorem walk_fnExactZeroColumns (a0 : Option Addr) (c0 : Nat) (xs : List Int) (w : World) (h0 : Ints w a0 c0 xs) :
    Calls Try.prog 8 #[.slice a0 xs.length c0] w fun e w' => e = .returned (.bool true) ∧ Below w.heap.size w w' := by
  by_cases hbig : (1048576 : Int) < xs.length
  · go_enter Try.func8, Try.ntmps8
    go_wp2_with fail
    go_ret
    exact ⟨rfl, Below.refl _ _⟩
  · have hlx : xs.length ≤ 2000000 := by omega
    obtain ⟨r, hr⟩ : ∃ r, r = zcOf (zcF xs) := ⟨_, rfl⟩
    obtain ⟨rb, hrb⟩ : ∃ r, r = (zcF xs).isSome := ⟨_, rfl⟩
    have hl : r.length ≤ 2000000 := by rw [hr]; exact zc_len xs
    have C1 := Lib.hid fun a c w h => zc_spec a c xs w h hlx
    have C2 := Lib.hid fun a c w h => zc_impl a c xs w h hlx
    rw [← hr, ← hrb] at C1 C2
    clear hr hrb
    go_enter Try.func8, Try.ntmps8
    go_wp2_with fail
    refine (toIntS_any a0 c0 xs _ h0 hlx).mono ?_; rintro e w1 ⟨a1, c1, rfl, o1, b1⟩
    go_wp2_with fail
    refine (C1.out _ _ _ o1.ints).mono ?_; rintro e w2 ⟨aW, cW, rfl, oW, b2⟩
    have h0a := (h0.below b1 (Nat.le_refl _)).below b2 (Nat.le_refl _)
    have lW := oW.lt
    go_wp2_with fail
    refine (toIntS_any a0 c0 xs _ h0a hlx).mono ?_; rintro e w3 ⟨aX, cX, rfl, oX, b3⟩
    have lX := oX.lt
    have h0b := h0a.below b3 (Nat.le_refl _)
    have oW3 := oW.below b3 (Nat.le_refl _)
    go_wp2_with fail
    refine (C2.out _ _ _ oX.ints).mono ?_; rintro e w4 ⟨aG, cG, rfl, oG, b4⟩
    have lG := oG.lt
    have h0c := h0b.below b4 (Nat.le_refl _)
    have oW4 := oW3.below b4 (Nat.le_refl _)
    have oX4 := oX.below b4 (Nat.le_refl _)
    go_wp2_with fail
    refine (eqIntS_refl aG aW cG cW r _ oG.ints oW4.ints hl).mono ?_; rintro e w5 ⟨rfl, b5⟩
    have h0d := h0c.below b5 (Nat.le_refl _)
    have oW5 := oW4.below b5 (Nat.le_refl _)
    have oX5 := oX4.below b5 (Nat.le_refl _)
    have oG5 := oG.below b5 (Nat.le_refl _)
    clear h0a h0b oW3 oW4 oX4
    go_wp2_with fail
    refine (toIntS_any a0 c0 xs _ h0d hlx).mono ?_; rintro e w6 ⟨aY, cY, rfl, oY, b6⟩
    have h0e := h0d.below b6 (Nat.le_refl _)
    have oW6 := oW5.below b6 (Nat.le_refl _)
    have oX6 := oX5.below b6 (Nat.le_refl _)
    have oG6 := oG5.below b6 (Nat.le_refl _)
    go_wp2_with fail
    refine (eqIntS_refl aX aY cX cY xs _ oX6.ints oY.ints hlx).mono ?_; rintro e w7 ⟨rfl, b7⟩
    have h0f := h0e.below b7 (Nat.le_refl _)
    have oW7 := oW6.below b7 (Nat.le_refl _)
    have oX7 := oX6.below b7 (Nat.le_refl _)
    have oG7 := oG6.below b7 (Nat.le_refl _)
    clear h0d oW5 oX5 oG5 oW6 oX6 oG6 h0e
    have s2 : w2.heap.size ≤ w7.heap.size := Nat.le_trans b3.size (Nat.le_trans b4.size (Nat.le_trans b5.size (Nat.le_trans b6.size b7.size)))
    have s3 : w3.heap.size ≤ w7.heap.size := Nat.le_trans b4.size (Nat.le_trans b5.size (Nat.le_trans b6.size b7.size))
    have sw : w.heap.size ≤ w2.heap.size := Nat.le_trans b1.size b2.size
    go_wp2_with fail
    refine (markIntS_any w2.heap.size aX cX xs 1 _ oX7 s2 hlx (by omega) (by omega)).mono ?_; rintro e w8 ⟨rfl, _, b8, g8⟩
    have oW8 := oW7.below' b8 (fun x hx => (lW x hx).2)
    have oG8 := oG7.kept g8 (fun x y hx hy => by have h1 := (lG x hx).1; have h2 := (lX y hy).2; omega)
    have b8w := b8.mono sw
    have h0g := h0.below (B := w.heap.size) ((nx (nx (nx (nx (nx (nx b1 b2) b3) b4) b5) b6) b7).trans b8w) (Nat.le_refl _)
    clear oW7 oG7 oX7 h0f g8
    go_wp2_with fail
    refine (eqIntS_refl aG aW cG cW r _ oG8.ints oW8.ints hl).mono ?_; rintro e w9 ⟨rfl, b9⟩
    have oW9 := oW8.below b9 (Nat.le_refl _)
    have oG9 := oG8.below b9 (Nat.le_refl _)
    have h0h := h0g.below b9 (Nat.le_refl _)
    have s9 : w3.heap.size ≤ w9.heap.size := Nat.le_trans s3 (Nat.le_trans b8.size b9.size)
    clear oW8 oG8 h0g
    go_wp2_with fail
    refine (markIntS_any w3.heap.size aG cG r 1 _ oG9 s9 hl (by omega) (by omega)).mono ?_; rintro e w10 ⟨rfl, oG10, b10, _⟩
    have oW10 := oW9.below' b10 (fun x hx => by have := (lW x hx).2; have := b3.size; omega)
    have b10w := b10.mono (Nat.le_trans sw b3.size)
    have h0i := h0.below (B := w.heap.size) (((nx ((nx (nx (nx (nx (nx (nx b1 b2) b3) b4) b5) b6) b7).trans b8w) b9)).trans b10w) (Nat.le_refl _)
    clear oW9 oG9 h0h
    go_wp2_with fail
    refine (heldIntS_any aG cG 1 r.length _ oG10.ints hl (by omega) (by omega)).mono ?_; rintro e w11 ⟨rfl, b11⟩
    have oW11 := oW10.below b11 (Nat.le_refl _)
    have oG11 := oG10.below b11 (Nat.le_refl _)
    have h0j := h0i.below b11 (Nat.le_refl _)
    clear oW10 oG10 h0i
    go_wp2_with fail
    refine (toIntS_any a0 c0 xs _ h0j hlx).mono ?_; rintro e w12 ⟨aZ, cZ, rfl, oZ, b12⟩
    have oW12 := oW11.below b12 (Nat.le_refl _)
    have oG12 := oG11.below b12 (Nat.le_refl _)
    clear oW11 oG11 h0j
    go_wp2_with fail
    refine (C2.out _ _ _ oZ.ints).mono ?_; rintro e w13 ⟨aH, cH, rfl, oH, b13⟩
    have oW13 := oW12.below b13 (Nat.le_refl _)
    have oG13 := oG12.below b13 (Nat.le_refl _)
    clear oW12 oG12
    go_wp2_with fail
    refine (eqIntS_refl aH aW cH cW r _ oH.ints oW13.ints hl).mono ?_; rintro e w14 ⟨rfl, b14⟩
    have oG14 := oG13.below b14 (Nat.le_refl _)
    clear oW13 oG13
    go_wp2_with fail
    refine (heldIntS_any aG cG 1 r.length _ oG14.ints hl (by omega) (by omega)).mono ?_; rintro e w15 ⟨rfl, b15⟩
    go_wp2_with fail
    go_ret
    exact ⟨rfl, nx (nx (nx (nx (nx ((nx ((nx (nx (nx (nx (nx (nx b1 b2) b3) b4) b5) b6) b7).trans b8w) b9).trans b10w) b11) b12) b13) b14) b15⟩


end Go.Proofs.Ytheeglaocflgmaa
