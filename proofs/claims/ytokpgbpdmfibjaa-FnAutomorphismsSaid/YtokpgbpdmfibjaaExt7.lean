/-
Contract of the implementation's list of automorphisms. Conditions: lengths at most 2000000.
-/
import Derived.Test.YtokpgbpdmfibjaaExt6
import Derived.Laws.EntriesVeiled
namespace Go.Proofs.Ytokpgbpdmfibjaa
open Go.RowKit Go.ChangeShapes
set_option linter.unusedVariables false

theorem autL_len {os : List Int} (hl : os.length ≤ 3) (h9 : gn os ≤ 9) : (autL os).length ≤ 729 := by
  unfold autL
  have h := auGo_len os (gn os) os.length []
  have h1 : gn os ^ os.length ≤ 9 ^ os.length := Nat.pow_le_pow_left h9 _
  have h2 : (9 : Nat) ^ os.length ≤ 9 ^ 3 := Nat.pow_le_pow_right (by decide) hl
  omega
set_option maxRecDepth 20000 in
set_option maxHeartbeats 6400000 in
theorem ats_impl (a0 : Option Addr) (c0 : Nat) (os : List Int) (w : World) (h0 : Ints w a0 c0 os) (hl : os.length ≤ 2000000) :
    Calls Try.prog 8 #[.agg #[.slice a0 os.length c0]] w (GaveR w (atL os) (atB os)) := by
  have hb0 := (Below.refl w.heap.size w).alloc (Nat.le_refl _) (.cells #[.slice a0 os.length c0] 26)
  have h1 := h0.below hb0 (Nat.le_refl _)
  have hM0 := OwnR.made (w := (w.alloc (.cells #[.slice a0 os.length c0] 26))) (B := w.heap.size + 1) (g := w.heap.size + 1) (by simp) (Nat.le_refl _) (fun i => ([] : List (List Int)).getD i [])
  have hM := hM0.below ((Below.refl _ _).alloc (Nat.le_refl _) (.cells #[.slice (some ⟨w.heap.size + 1, 0, none⟩) 0 0] 28)) (Nat.le_refl _)
  have hB := ((Below.refl (w.heap.size + 1) (w.alloc (.cells #[.slice a0 os.length c0] 26))).alloc (by simp) (.cells #[] 24)).alloc (by simp) (.cells #[.slice (some ⟨w.heap.size + 1, 0, none⟩) 0 0] 28)
  have h2 := h1.below hB (by simp)
  obtain ⟨W2, hW2⟩ : ∃ W, W = ((w.alloc (.cells #[.slice a0 os.length c0] 26)).alloc (.cells #[] 24)).alloc (.cells #[.slice (some ⟨w.heap.size + 1, 0, none⟩) 0 0] 28) := ⟨_, rfl⟩
  have hbg : W2.heap[w.heap.size]? = some (.cells #[.slice a0 os.length c0] 26 (0, 0)) := by rw [hW2]; exact one_alloc (one_alloc (new_at rfl))
  have hbo : W2.heap[w.heap.size + 2]? = some (.cells #[.slice (some ⟨w.heap.size + 1, 0, none⟩) 0 0] 28 (0, 0)) := by rw [hW2]; exact new_at (by simp)
  have hsz2 : w.heap.size + 3 ≤ W2.heap.size := by rw [hW2]; simp
  have CG := Lib.hid (fun w h => isGroup_impl a0 c0 os w h hl)
  have CO := Lib.hid (fun w h => orderOf_impl a0 c0 os w h hl)
  have HW := Lib.hid hW2
  rw [← hW2] at hM hB h2
  cases hg : grpB os with
  | false =>
    have e1 : atB os = false := by simp [atB, hg]
    have e2 : atL os = [] := by simp [atL, e1]
    rw [e1, e2]
    rw [hg] at CG
    clear hg e1 e2
    go_enter Try.func8, Try.ntmps8
    go_wp2_with fail
    rw [← HW.out]
    refine (CG.out _ h2).mono ?_; rintro e w3 ⟨rfl, b3⟩
    have hb3 := hB.trans (b3.mono (by omega))
    have hM3 := hM.below b3 (Nat.le_refl _)
    have q3 := cell_of_one (one_below hbo b3 (Nat.le_refl _))
    go_wp2_with fail
    go_ret2
    exact ⟨_, _, _, rfl, hM3.mono (by omega), hb0.trans (hb3.mono (by omega))⟩
  | true =>
    rw [hg] at CG
    obtain ⟨g2, g3, g4, g5, g6⟩ := grp_gn hg
    rw [show ordV os = gord os by simp [ordV, hg], ← g5] at CO
    by_cases h9 : gn os ≤ 9
    · have e1 : atB os = true := by simp [atB, hg, h9]
      have e2 : atL os = autL os := by simp [atL, e1]
      rw [e1, e2]
      have hl3 := (grp_parts hg).1
      have hTl := autL_len hl3 h9
      have CF := Lib.hid (fun (bi bm : Nat) (im : List Int) w' he hb => ats_cl os (w.alloc (.cells #[.slice a0 os.length c0] 26)) (w.heap.size + 1) bi w.heap.size (bi + 1) (w.heap.size + 2) bm a0 c0 hl hg h1 (by simp) (by omega) os.length 0 im [] [] (autL os) (some ⟨w.heap.size + 1, 0, none⟩) 0 [] w' (by omega) rfl rfl (by omega) he hb (by simp))
      obtain ⟨L, hL⟩ : ∃ L, L = autL os := ⟨_, rfl⟩
      rw [← hL] at CF ⊢
      obtain ⟨n, hn⟩ : ∃ n, n = gn os := ⟨_, rfl⟩
      rw [← hn] at CO h9
      have hn9 : ¬ (n : Int) > 9 := by omega
      have hwn : IntKind.i64.wrap (n : Int) = n := wrap_in (by omega) (by omega)
      have q2 := cell_of_one hbg
      have HM := Lib.hid hM
      have HB := Lib.hid hB
      clear hg e1 e2 h9 hn g2 g3 g4 g5 g6 hM0 hM hB hL hTl
      go_enter Try.func8, Try.ntmps8
      go_wp2_with fail
      rw [← HW.out]
      refine (CG.out _ h2).mono ?_; rintro e w3 ⟨rfl, b3⟩
      have hbo3 := one_below hbo b3 (Nat.le_refl _)
      have hbg3 := one_below hbg b3 (Nat.le_refl _)
      have q3 := cell_of_one hbg3
      have hb3 := HB.out.trans (b3.mono (by omega))
      have hM3 := HM.out.below b3 (Nat.le_refl _)
      have h3 := h2.below b3 (Nat.le_refl _)
      have hsz3 := Nat.le_trans hsz2 b3.size
      clear q2 hbo hbg b3 HM HB h2 hsz2
      go_wp2_with fail
      refine (CO.out _ h3).mono ?_; rintro e w4 ⟨rfl, b4⟩
      have hb4 := hb3.trans (b4.mono (by omega))
      have hM4 := hM3.below b4 (Nat.le_refl _)
      have hbo4 := one_below hbo3 b4 (Nat.le_refl _)
      have hbg4 := one_below hbg3 b4 (Nat.le_refl _)
      have q4 := cell_of_one hbg4
      have hsz4 := Nat.le_trans hsz3 b4.size
      clear q3 hbo3 hbg3 b4 hM3 hb3 h3 hsz3
      go_wp2_with (at_make; refine wpList_mk rfl _ _ rfl w4.heap.size _ _ os.length rfl rfl rfl rfl (by omega) (Nat.le_refl _) ?_)
      intro w5 o5 hgr
      have b5 := hgr _ (Below.refl _ _)
      have hb5 := hb4.trans (b5.mono (by omega))
      have hM5 := hM4.below b5 (Nat.le_refl _)
      have hbo5 := one_below hbo4 b5 (Nat.le_refl _)
      have hbg5 := one_below hbg4 b5 (Nat.le_refl _)
      have hsz5 := Nat.le_trans hsz4 b5.size
      have tl := (o5.lt _ rfl).2
      simp only at tl
      have CF1 := Lib.hid (fun w he hb => CF.out w5.heap.size w4.heap.size (List.replicate os.length 0) w he hb)
      simp only [Int.cast_ofNat_Int] at CF1
      have HBO := Lib.hid hbo5
      have HBG := Lib.hid hbg5
      have qq := cell_of_one hbg5
      clear CF hgr b5 hM4 hb4 hbo4 hbg4 q4 hbo5 hbg5
      go_wp2_with fail
      refine (CF1.out _ ?env ?bel).mono ?_
      case env =>
        refine ⟨one_alloc (new_at rfl), one_alloc (one_alloc HBG.out), new_at (by simp), one_alloc (one_alloc HBO.out), ((o5.mono (by omega)).alloc _).alloc _, by simp, ?_, ⟨⟨by omega, by omega, by omega, by omega⟩, by omega, by omega, by omega⟩, ?_, ?_⟩
        · exact (hM5.below ((Below.refl _ _).alloc (Nat.le_refl _) _) (Nat.le_refl _)).below ((Below.refl _ _).alloc (Nat.le_refl _) _) (Nat.le_refl _)
        · intro b hb
          have e : w.heap.size + 1 = b := by simpa [Value.ownBlock] using hb
          subst e
          exact ⟨by omega, by omega, by omega, by omega, by omega⟩
        · intro i v b hv
          simp at hv
      case bel => exact (hb5.alloc (by omega) _).alloc (by simp; omega) _
      rintro e w6 ⟨rfl, im', ao', co', vs', env, -, hb6⟩
      have q6 := cell_of_one env.ho
      have hoo := env.oo
      clear env CF1 hb5 hM5
      go_wp2_with fail
      go_ret2
      exact ⟨_, _, _, rfl, hoo.mono (by omega), hb0.trans (hb6.mono (by omega))⟩
    · have e1 : atB os = false := by simp [atB, h9]
      have e2 : atL os = [] := by simp [atL, e1]
      rw [e1, e2]
      have hn9 : (gn os : Int) > 9 := by omega
      obtain ⟨n, hn⟩ : ∃ n, n = gn os := ⟨_, rfl⟩
      rw [← hn] at CO hn9 g4
      have hwn : IntKind.i64.wrap (n : Int) = n := wrap_in (by omega) (by omega)
      clear hg e1 e2 h9 hn g2 g3 g5 g6
      have q2 := cell_of_one hbg
      go_enter Try.func8, Try.ntmps8
      go_wp2_with fail
      rw [← HW.out]
      refine (CG.out _ h2).mono ?_; rintro e w3 ⟨rfl, b3⟩
      have hbo3 := one_below hbo b3 (Nat.le_refl _)
      have q3 := cell_of_one (one_below hbg b3 (Nat.le_refl _))
      have hb3 := hB.trans (b3.mono (by omega))
      have hM3 := hM.below b3 (Nat.le_refl _)
      have h3 := h2.below b3 (Nat.le_refl _)
      have hsz3 := Nat.le_trans hsz2 b3.size
      clear q2
      go_wp2_with fail
      refine (CO.out _ h3).mono ?_; rintro e w4 ⟨rfl, b4⟩
      have hb4 := hb3.trans (b4.mono (by omega))
      have hM4 := hM3.below b4 (Nat.le_refl _)
      have q4 := cell_of_one (one_below hbo3 b4 (Nat.le_refl _))
      go_wp2_with fail
      go_ret2
      exact ⟨_, _, _, rfl, hM4.mono (by omega), hb0.trans (hb4.mono (by omega))⟩
end Go.Proofs.Ytokpgbpdmfibjaa
