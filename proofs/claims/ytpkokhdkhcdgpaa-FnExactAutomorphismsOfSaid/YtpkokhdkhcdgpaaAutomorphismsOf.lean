/-
The program's AutomorphismsOf returns what the reference's returns, for all arguments; its lists are its own. No condition.
-/
import Derived.Test.YtpkokhdkhcdgpaaMkg
import Derived.Test.YtpkokhdkhcdgpaaRws
import Derived.Deep.RegionHeld3
namespace Go.Proofs.Ytpkokhdkhcdgpaa
open Go.ChangeShapes Go.RowKit

set_option maxRecDepth 20000 in
set_option maxHeartbeats 3200000 in
theorem walk_fnExactAutomorphismsOf (axs : Option Addr) (cxs : Nat) (xs : List Int) (w : World) (hxs : Ints w axs cxs xs) :
    Calls Try.prog 9 #[.agg #[.slice axs xs.length cxs]] w fun e w' => e = .returned (.bool true) ∧ Below w.heap.size w w' := by
  have hmxs : xs.length ≤ 9223372036854775807 := by have := hxs.1; have := hxs.2.1; unfold maxLen at this; omega
  have hb0 := (Below.refl w.heap.size w).alloc (Nat.le_refl _) (.cells #[.slice axs xs.length cxs] 24)
  by_cases hbig : (xs.length : Int) ≤ 1048576
  · have hlxs : xs.length ≤ 2000000 := by omega
    have hlx2 : xs.length ≤ 1100000 := by omega
    have CS := Lib.hid (szGroup_any axs cxs xs.length 1048576 · (by omega) (by omega) hmxs)
    simp only [if_pos hbig] at CS
    have C1 := Lib.hid (fun axs' cxs' w hxs' => ats_spec axs' cxs' xs w hxs' hlxs)
    have C2 := Lib.hid (fun axs' cxs' w hxs' => ats_impl axs' cxs' xs w hxs' hlxs)
    have hLl := atL_len xs
    have HLR := Lib.hid (atL_row xs)
    obtain ⟨L, hL⟩ : ∃ r, r = atL xs := ⟨_, rfl⟩
    obtain ⟨bb, hbb⟩ : ∃ r, r = atB xs := ⟨_, rfl⟩
    rw [← hL, ← hbb] at C1 C2
    rw [← hL] at hLl HLR
    have HLR2 : Hid (∀ i, (L.getD i []).length ≤ 1000000) := Lib.hid (fun i => by have := HLR.out i; omega)
    have hS := sumL_le (R := fun i => L.getD i []) (m := 24) HLR.out L.length
    obtain ⟨S, hS0⟩ : ∃ S, S = sumL (fun i => L.getD i []) L.length := ⟨_, rfl⟩
    rw [← hS0] at hS
    have HS0 := Lib.hid hS0
    have hSb : S ≤ 20000 := by omega
    have hLl2 : L.length ≤ 1000000 := by omega
    clear hL hbb hS hS0
    cases bb
    all_goals
      go_enter Try.func9, Try.ntmps9
      have kxs := hxs.below hb0 (Nat.le_refl _)
      go_wp2_with fail
      refine (CS.out _).mono ?_; rintro e w1 ⟨rfl, b1⟩
      have q1 := box_cell b1 (by simp)
      have z1 : w.heap.size < w1.heap.size := by have := b1.size; simp at this; omega
      have h1 := kxs.below b1 (Nat.le_refl _)
      have B1 := nx hb0 b1
      clear kxs hb0 b1 hxs
      go_wp2_with fail
      refine (toGroup_any axs cxs xs _ h1 hlxs).mono ?_; rintro e w2 ⟨ag, cg, rfl, og, b2⟩
      have q2 := (b2.cell (p := ⟨w.heap.size, 0, none⟩) z1).trans q1
      have z2 := Nat.lt_of_lt_of_le z1 b2.size
      have h2 := h1.below b2 (Nat.le_refl _)
      have B2 := nx B1 b2
      clear b2 q1 z1 h1 B1
      go_wp2_with fail
      refine (C1.out _ _ _ og.ints).mono ?_; rintro e w3 ⟨au, cu, us, rfl, ou, b3⟩
      have q3 := (b3.cell (p := ⟨w.heap.size, 0, none⟩) z2).trans q2
      have z3 := Nat.lt_of_lt_of_le z2 b3.size
      have h3 := h2.below b3 (Nat.le_refl _)
      have B3 := nx B2 b3
      have ru3 := ou.rd
      clear b3 q2 z2 h2 B2 og ou
      go_wp2_with fail
      refine (toGroup_any axs cxs xs _ h3 hlxs).mono ?_; rintro e w4 ⟨a4, c4, rfl, o4, b4⟩
      have q4 := (b4.cell (p := ⟨w.heap.size, 0, none⟩) z3).trans q3
      have z4 := Nat.lt_of_lt_of_le z3 b4.size
      have h4 := h3.below b4 (Nat.le_refl _)
      have B4 := nx B3 b4
      have K4 := b4
      have H3 := Lib.hid h3
      have RU3 := Lib.hid ru3
      have Z3 := z3
      have ru4 := ru3.below b4 (Nat.le_refl _)
      have L4 : ∀ y, a4 = some y → w3.heap.size ≤ y.block ∧ y.block < w4.heap.size := fun y hy => o4.lt y hy
      have HL4 := Lib.hid L4
      have s34 := b4.size
      clear b4 q3 z3 h3 B3 ru3 L4
      have bx := (Below.refl w4.heap.size w4).alloc (Nat.le_refl _) (.cells #[.slice a4 xs.length c4] 27)
      have q5 := (bx.cell (p := ⟨w.heap.size, 0, none⟩) z4).trans q4
      have h5 := h4.below bx (Nat.le_refl _)
      have o5 := o4.below bx (Nat.le_refl _)
      have B5 := nx B4 bx
      have K5 := nx K4 bx
      have ru5 := ru4.below bx (Nat.le_refl _)
      have p5 : (w4.alloc (.cells #[.slice a4 xs.length c4] 27)).cell? ⟨w4.heap.size, 0, none⟩ = some (.slice a4 xs.length c4) := by simp [go_sem]
      have y5 : w4.heap.size < (w4.alloc (.cells #[.slice a4 xs.length c4] 27)).heap.size := by simp
      have z5 : w.heap.size < (w4.alloc (.cells #[.slice a4 xs.length c4] 27)).heap.size := by simp; omega
      clear bx q4 h4 o4 B4 ru4 K4
      go_wp2_with fail
      refine (C2.out _ _ _ o5.ints).mono ?_; rintro e w6 ⟨av, cv, vs, rfl, ov, b6⟩
      have q6 := (b6.cell (p := ⟨w.heap.size, 0, none⟩) z5).trans q5
      have z6 := Nat.lt_of_lt_of_le z5 b6.size
      have p6 := (b6.cell (p := ⟨w4.heap.size, 0, none⟩) y5).trans p5
      have y6 := Nat.lt_of_lt_of_le y5 b6.size
      have h6 := h5.below b6 (Nat.le_refl _)
      have o6 := o5.below b6 (Nat.le_refl _)
      have B6 := nx B5 b6
      have K6 := nx K5 b6
      have ru6 := ru5.below b6 (Nat.le_refl _)
      obtain ⟨G, hG⟩ : ∃ G, G = (w4.alloc (.cells #[.slice a4 xs.length c4] 27)).heap.size := ⟨_, rfl⟩
      rw [← hG] at ov y5 b6
      have s6 : G ≤ w6.heap.size := by rw [hG]; exact b6.size
      clear b6 q5 z5 p5 h5 o5 B5 ru5 hG K5
      go_wp2_with fail
      refine (eqIntSS_refl av au cv cu L.length (fun i => L.getD i []) vs us _ ov.rd ru6 hLl2 HLR2.out).mono ?_; rintro e w7 ⟨rfl, b7⟩
      have q7 := (b7.cell (p := ⟨w.heap.size, 0, none⟩) z6).trans q6
      have z7 := Nat.lt_of_lt_of_le z6 b7.size
      have p7 := (b7.cell (p := ⟨w4.heap.size, 0, none⟩) y6).trans p6
      have y7 := Nat.lt_of_lt_of_le y6 b7.size
      have h7 := h6.below b7 (Nat.le_refl _)
      have o7 := o6.below b7 (Nat.le_refl _)
      have B7 := nx B6 b7
      have K7 := nx K6 b7
      have ru7 := ru6.below b7 (Nat.le_refl _)
      have ov7 := ov.below b7 (Nat.le_refl _)
      have s7 := Nat.le_trans s6 b7.size
      clear b7 q6 z6 p6 y6 h6 o6 B6 ru6 ov s6 K6
      go_wp2_with fail
      go_region_held3 (fun w' => w'.cell? ⟨w.heap.size, 0, none⟩ = some (.slice axs xs.length cxs) ∧ w'.cell? ⟨w4.heap.size, 0, none⟩ = some (.slice a4 xs.length c4)) (exact ⟨by assumption, by assumption⟩) (first
        | (go_at_call 15; refine (toGroup_any axs cxs xs _ h7.drew hlxs).mono ?_; rintro e w8 ⟨a8, c8, rfl, o8, b8⟩; have q8 := (b8.cell (p := ⟨w.heap.size, 0, none⟩) z7).trans q7; have p8 := (b8.cell (p := ⟨w4.heap.size, 0, none⟩) y7).trans p7)
        | (go_at_call 18; refine (eqGroup_refl a4 a8 c4 c8 xs _ (o7.ints.below (below_undrew b8) (Nat.le_refl _)) o8.ints hlxs).mono ?_; rintro e w9 ⟨rfl, b9⟩; have q9 := (b9.cell (p := ⟨w.heap.size, 0, none⟩) (Nat.lt_of_lt_of_le z7 b8.size)).trans q8; have p9 := (b9.cell (p := ⟨w4.heap.size, 0, none⟩) (Nat.lt_of_lt_of_le y7 b8.size)).trans p8))
      have b89 := nx (below_undrew b8) b9
      have z9 := Nat.lt_of_lt_of_le z7 b89.size
      have y9 := Nat.lt_of_lt_of_le y7 b89.size
      have h9 := h7.below b89 (Nat.le_refl _)
      have o9 := o7.below b89 (Nat.le_refl _)
      have B9 := nx B7 b89
      have K9 := nx K7 b89
      have ru9 := ru7.below b89 (Nat.le_refl _)
      have ov9 := ov7.below b89 (Nat.le_refl _)
      have s9 := Nat.le_trans s7 b89.size
      clear b8 b9 b89 q7 z7 p7 y7 h7 o7 B7 ru7 ov7 s7 q8 p8 o8 K7
      go_wp2_with fail
      have hm1 := markGroup_any w3.heap.size a4 c4 xs 1 w9 o9 (by omega) hlx2 (by omega)
      refine hm1.mono ?_; rintro e w10 ⟨rfl, b10, g10⟩
      have hne : ∀ b, G ≤ b → a4.map (·.block) ≠ some b := fun b hb e => by
        cases a4 with
        | none => simp at e
        | some y =>
          have h1 := (HL4.out y rfl).2
          simp at e
          omega
      have ov10 := ov9.kept g10 (fun b hb => hne b (ov9.outLt b hb).1) (fun i v b hv hb => hne b (ov9.rowLt i v b hv hb).1)
      have s10 := Nat.le_trans s9 b10.size
      have K10 := K9.trans b10
      have ru10 := RU3.out.below K10 (Nat.le_refl _)
      have h10 := H3.out.below K10 (Nat.le_refl _)
      have q10 := (b10.cell (p := ⟨w.heap.size, 0, none⟩) Z3).trans q9
      have B10 := B9.trans (b10.mono (Nat.le_of_lt Z3))
      have z10 := Nat.lt_of_lt_of_le z9 b10.size
      have s3G : w3.heap.size ≤ G := by omega
      clear hm1 b10 g10 hne ov9 s9 K9 ru9 h9 q9 B9 z9 o9 p9 y9
      go_wp2_with fail
      refine (eqIntSS_refl av au cv cu L.length (fun i => L.getD i []) vs us _ ov10.rd ru10 hLl2 HLR2.out).mono ?_; rintro e w11 ⟨rfl, b11⟩
      have q11 := (b11.cell (p := ⟨w.heap.size, 0, none⟩) z10).trans q10
      have z11 := Nat.lt_of_lt_of_le z10 b11.size
      have K11 := K10.trans (b11.mono (by have := K10.size; omega))
      have B11 := nx B10 b11
      have ov11 := ov10.below b11 (Nat.le_refl _)
      have s11 := Nat.le_trans s10 b11.size
      clear b11 q10 z10 K10 B10 ov10 s10 ru10 h10
      go_wp2_with fail
      have hmk := markIntSS_any G av cv L.length (fun i => L.getD i []) vs 1 w11 ov11 s11 hLl2 (by rw [← HS0.out]; omega)
      rw [← HS0.out] at hmk
      refine hmk.mono ?_; rintro e w12 ⟨rfl, ov12, b12⟩
      have q12 := (b12.cell (p := ⟨w.heap.size, 0, none⟩) (Nat.lt_of_lt_of_le Z3 s3G)).trans q11
      have z12 := Nat.lt_of_lt_of_le z11 b12.size
      have K12 := K11.trans (b12.mono s3G)
      have B12 := B11.trans (b12.mono (by omega))
      have s12 := Nat.le_trans s11 b12.size
      clear hmk b12 q11 z11 K11 B11 s11 ov11
      go_wp2_with fail
      have hhd := heldIntSS_any av cv L.length (fun i => L.getD i []) vs 1 w12 ov12.rd hLl2 (by rw [← HS0.out]; omega)
      rw [← HS0.out] at hhd
      refine hhd.mono ?_; rintro e w13 ⟨rfl, b13⟩
      have q13 := (b13.cell (p := ⟨w.heap.size, 0, none⟩) z12).trans q12
      have z13 := Nat.lt_of_lt_of_le z12 b13.size
      have K13 := K12.trans (b13.mono (by have := K12.size; omega))
      have B13 := nx B12 b13
      have ov13 := ov12.below b13 (Nat.le_refl _)
      have h13 := H3.out.below K13 (Nat.le_refl _)
      clear hhd b13 q12 z12 K12 B12 ov12 s12
      go_wp2_with fail
      refine (toGroup_any axs cxs xs _ h13 hlxs).mono ?_; rintro e w14 ⟨a14, c14, rfl, o14, b14⟩
      have K14 := K13.trans (b14.mono (by have := K13.size; omega))
      have B14 := nx B13 b14
      have ov14 := ov13.below b14 (Nat.le_refl _)
      clear b14 q13 z13 K13 B13 ov13 h13
      go_wp2_with fail
      refine (C2.out _ _ _ o14.ints).mono ?_; rintro e w15 ⟨ah, ch, hs, rfl, oh, b15⟩
      have K15 := K14.trans (b15.mono (by have := K14.size; omega))
      have B15 := nx B14 b15
      have ov15 := ov14.below b15 (Nat.le_refl _)
      have ru15 := RU3.out.below K15 (Nat.le_refl _)
      clear b15 K14 B14 ov14 o14
      go_wp2_with fail
      refine (eqIntSS_refl ah au ch cu L.length (fun i => L.getD i []) hs us _ oh.rd ru15 hLl2 HLR2.out).mono ?_; rintro e w16 ⟨rfl, b16⟩
      have B16 := nx B15 b16
      have ov16 := ov15.below b16 (Nat.le_refl _)
      clear b16 K15 B15 ov15 ru15 oh
      go_wp2_with fail
      have hhe := heldIntSS_any av cv L.length (fun i => L.getD i []) vs 1 w16 ov16.rd hLl2 (by rw [← HS0.out]; omega)
      rw [← HS0.out] at hhe
      refine hhe.mono ?_; rintro e w17 ⟨rfl, b17⟩
      have B17 := nx B16 b17
      clear hhe b17 B16 ov16
      go_wp2_with fail
      go_ret
      exact ⟨rfl, B17⟩
  · have CS := Lib.hid (szGroup_any axs cxs xs.length 1048576 · (by omega) (by omega) hmxs)
    simp only [if_neg hbig] at CS
    go_enter Try.func9, Try.ntmps9
    go_wp2_with fail
    refine (CS.out _).mono ?_; rintro e w1 ⟨rfl, b1⟩
    go_wp2_with fail
    go_ret
    exact ⟨rfl, nx hb0 b1⟩


end Go.Proofs.Ytpkokhdkhcdgpaa
