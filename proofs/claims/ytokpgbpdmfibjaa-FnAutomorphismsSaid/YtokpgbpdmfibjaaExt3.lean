/-
Contract of the reference's map that carries the generators to images. Conditions: orders of a group, one image of each order's generator, each below the order.
-/
import Derived.Test.YtokpgbpdmfibjaaExt2
import Derived.Test.YtokpgbpdmfibjaaRws
namespace Go.Proofs.Ytokpgbpdmfibjaa
open Go.RowKit Go.ChangeShapes
set_option linter.unusedVariables false

theorem extL_step {os im : List Int} {k : Nat} (hk : k < gn os) : (extL os im).take k ++ [(ext os im k : Int)] = (extL os im).take (k + 1) := by
  have hlt : k < (extL os im).length := by rw [extL_len]; exact hk
  rw [List.take_succ_eq_append_getElem hlt]
  congr 2
  simp [extL]
theorem exZ_lt {os im ps : List Int} (h : ordsIn os = true) : ∀ k, exZ os im ps k < gn os
  | 0 => by
    have := gord_pos h
    show 0 < gn os
    unfold gn; omega
  | k + 1 => gadd_lt' h _ _

set_option maxRecDepth 20000 in
set_option maxHeartbeats 3200000 in
theorem l27Extend_any (a0 : Option Addr) (c0 : Nat) (os : List Int) (a1 : Option Addr) (c1 : Nat) (im : List Int) (w : World) (h0 : Ints w a0 c0 os) (k0 : Ints w a1 c1 im) (hl : os.length ≤ 2000000) (hg0 : grpB os = true) (him : im.length = os.length) (hm : ∀ x ∈ im, 0 ≤ x ∧ x < (gn os : Int)) :
    Calls Try.prog 84 #[.agg #[.slice a0 os.length c0], .slice a1 im.length c1] w (GaveI w (extL os im)) := by
  have hb0 := (Below.refl w.heap.size w).alloc (Nat.le_refl _) (.cells #[.slice a0 os.length c0] 26)
  have h1 := h0.below hb0 (Nat.le_refl _)
  have k1 := k0.below hb0 (Nat.le_refl _)
  obtain ⟨g2, g3, g4, g5, g6⟩ := grp_gn hg0
  have C := Lib.hid (fun w h => l2Order_any a0 c0 os w h hg0)
  rw [← g5] at C
  have CP := Lib.hid (fun x w h hx => placesOf_any a0 c0 os x w h hl hg0 hx)
  have CM := Lib.hid (fun x n w h hx hn => multipleOf_any a0 c0 os x n w h hl hg0 hx hn)
  have CA := Lib.hid (fun x y w h hx hy => l2Add_any a0 c0 os x y w h hg0 hx hy)
  have HIM := Lib.hid him
  have HEL : Hid (∀ i, (hi : i < im.length) → im[i] = (elt im i : Int) ∧ elt im i < gn os) := Lib.hid (fun i hi => by
    have e := (elt_at hi (fun x hx => by have := hm x hx; omega)).1
    have := hm _ (List.getElem_mem hi)
    rw [e] at this
    exact ⟨e, by omega⟩)
  have HPB : Hid (∀ x, ∀ y ∈ plL os x, 0 ≤ y ∧ y < 24) := Lib.hid (fun x => plL_bd g2 x)
  have HPN : Hid (∀ x, (plL os x).length = os.length) := Lib.hid (fun x => plL_len os x)
  have HZL : Hid (∀ ps k, exZ os im ps k < gn os) := Lib.hid (fun ps k => exZ_lt g2 k)
  have HML : Hid (∀ x k, gmul os x k < gn os) := Lib.hid (fun x k => gmul_lt g2 x k)
  have HST : Hid (∀ k, k < gn os → (extL os im).take k ++ [(exZ os im (plL os k) os.length : Int)] = (extL os im).take (k + 1)) := Lib.hid (fun k hk => extL_step hk)
  have HLL := Lib.hid (extL_len os im)
  obtain ⟨L, hL⟩ : ∃ L, L = extL os im := ⟨_, rfl⟩
  rw [← hL] at HST HLL ⊢
  obtain ⟨n, hn⟩ : ∃ n, n = gn os := ⟨_, rfl⟩
  rw [← hn] at C CP CM HEL HZL HML HST HLL g4
  have hwn : IntKind.i64.wrap (n : Int) = n := wrap_in (by omega) (by omega)
  have HC := Lib.hid k1.2.2.2.2
  have HM := Lib.hid (OwnI.made_at (w := (w.alloc (.cells #[.slice a0 os.length c0] 26))) (B := w.heap.size + 1) (n := w.heap.size + 1) (by simp) (Nat.le_refl _))
  have HB := Lib.hid ((Below.refl (w.heap.size + 1) (w.alloc (.cells #[.slice a0 os.length c0] 26))).alloc (by simp) (.cells #[] 3))
  clear hL hn g2 g3 g5 g6 hg0 hm him
  go_enter Try.func84, Try.ntmps84
  go_wp2_with fail
  go_loopw [5, 6] (fun vo vx wr => ∃ (k : Nat) (ls : List Int) (ad : Option Addr) (c : Nat), k ≤ n ∧ vx = .int .i64 (k : Int) ∧ vo = .slice ad ls.length c ∧ Hid (ls = L.take k) ∧ ls.length ≤ 1000000 ∧ OwnI wr (w.heap.size + 1) ad c ls ∧ Below (w.heap.size + 1) (w.alloc (.cells #[.slice a0 os.length c0] 26)) wr ∧ w.heap.size + 1 ≤ wr.heap.size) (fun _ i _ => n - (intOf i).toNat)
  case atStart => exact ⟨0, [], _, _, by omega, rfl, rfl, Lib.hid (by simp), by simp, HM.out, HB.out, by simp⟩
  case round =>
    obtain ⟨k, ls, ad, c, hk, rfl, rfl, HLS, hll, ho, hbel, hsz⟩ := hrel
    have q3 : wr.cell? ⟨w.heap.size, 0, none⟩ = some (.slice a0 os.length c0) := by rw [hbel.cell (p := ⟨w.heap.size, 0, none⟩) (by simp)]; simp [go_sem]
    have h3 := h1.below hbel (by simp)
    by_cases hlt : k < n
    · have CP1 := Lib.hid (fun w h => CP.out k w h hlt)
      have hst := HST.out k hlt
      have hpl := HPN.out k
      have hpb := HPB.out k
      obtain ⟨ps, hps⟩ : ∃ ps, ps = plL os k := ⟨_, rfl⟩
      rw [← hps] at CP1 hst hpl hpb
      have HPS := Lib.hid hst
      have HPB1 := Lib.hid hpb
      have HPL := Lib.hid hpl
      have hpl3 : ps.length ≤ 2000000 := by omega
      have hkn : (k : Int) < n := by omega
      clear hst hpb hps HPB hpl
      go_wp2_with fail
      refine (C.out _ h3).mono ?_; rintro e w3 ⟨rfl, b3⟩
      have q4 := (b3.cell (p := ⟨w.heap.size, 0, none⟩) (by show w.heap.size < wr.heap.size; omega)).trans q3
      have hb3 := hbel.trans (b3.mono hsz)
      have ho3 := ho.below b3 (Nat.le_refl _)
      have hsz3 := Nat.le_trans hsz b3.size
      have h4 := h3.below b3 (Nat.le_refl _)
      clear b3 q3 hbel ho h3 hsz
      go_wp2_with fail
      refine (CP1.out _ h4).mono ?_; rintro e w4 ⟨ap, cp, rfl, op, b4⟩
      have q5 := (b4.cell (p := ⟨w.heap.size, 0, none⟩) (by show w.heap.size < w3.heap.size; omega)).trans q4
      have hb4 := hb3.trans (b4.mono hsz3)
      have ho4 := ho3.below b4 (Nat.le_refl _)
      have hsz4 := Nat.le_trans hsz3 b4.size
      have h5 := h4.below b4 (Nat.le_refl _)
      have HCP := Lib.hid op.ints.2.2.2.2
      clear b4 q4 hb3 ho3 h4 hsz3 op
      go_wp2_with fail
      go_loopw [8, 9] (fun vz vi wr => ∃ (i s : Nat), i ≤ ps.length ∧ vi = .int .i64 (i : Int) ∧ vz = .int .i64 (s : Int) ∧ Hid (s = exZ os im ps i) ∧ Below w4.heap.size w4 wr) (fun _ i _ => ps.length - (intOf i).toNat)
      case atStart => exact ⟨0, 0, by omega, rfl, rfl, Lib.hid rfl, Below.refl _ _⟩
      case round =>
        obtain ⟨i, s, hi, rfl, rfl, HS, hbi⟩ := hrel
        have q6 := (hbi.cell (p := ⟨w.heap.size, 0, none⟩) (by show w.heap.size < w4.heap.size; omega)).trans q5
        by_cases hip : i < ps.length
        · rcases HCP.out with hcs | ⟨b, off, rfl, hbB, hcell⟩
          · subst hcs; simp at hip
          rcases HC.out with hcs | ⟨b', off', rfl, hbB', hcell'⟩
          · have h1 := HIM.out; have h2 := HPL.out; subst hcs; simp at h1; omega
          have hii : i < im.length := by have h1 := HIM.out; have h2 := HPL.out; omega
          obtain ⟨e1, e2⟩ := HEL.out i hii
          have e3 := (elt_at hip (fun x hx => by have := HPB1.out x hx; omega)).1
          have e4 := HPB1.out _ (List.getElem_mem hip)
          have d1 := (hbi.cell (p := ⟨b, off + i, none⟩) hbB).trans (hcell i hip)
          have d2 := (hbi.cell (p := ⟨b', off' + i, none⟩) (by show b' < w4.heap.size; simp at hbB'; omega)).trans ((hb4.cell (p := ⟨b', off' + i, none⟩) (by show b' < w.heap.size + 1; simpa using hbB')).trans (hcell' i hii))
          rw [e3] at d1 e4
          rw [e1] at d2
          have hst : gadd os (exZ os im ps i) (gmul os (elt im i) (elt ps i)) = exZ os im ps (i + 1) := rfl
          rw [← HS.out] at hst
          have hs24 := HZL.out ps i
          rw [← HS.out] at hs24
          obtain ⟨x, hx⟩ : ∃ x, x = elt im i := ⟨_, rfl⟩
          obtain ⟨p, hp⟩ : ∃ p, p = elt ps i := ⟨_, rfl⟩
          have hm24 := HML.out x p
          rw [← hx] at d2 hst e2
          rw [← hp] at d1 hst e4
          obtain ⟨m, hm⟩ : ∃ m, m = gmul os x p := ⟨_, rfl⟩
          have CM1 := Lib.hid (fun w h => CM.out x p w h e2 (by omega))
          rw [← hm] at hst hm24 CM1
          have CA1 := Lib.hid (fun w h => CA.out s m w h (by omega) (by omega))
          obtain ⟨t, ht⟩ : ∃ t, t = gadd os s m := ⟨_, rfl⟩
          rw [← ht] at hst CA1
          have HT := Lib.hid hst
          have h6 := h5.below hbi (Nat.le_refl _)
          have zw : w.heap.size < wr.heap.size := by have := hbi.size; omega
          have zb : b < wr.heap.size := by have := hbi.size; omega
          have zb' : b' < wr.heap.size := by have := hbi.size; simp at hbB'; omega
          have hip2 : (i : Int) < ps.length := by omega
          have hii2 : (i : Int) < im.length := by omega
          clear e1 e3 hcell hcell' hx hp hm ht hst HS hbB hbB' HEL HZL HML CM CA
          go_wp2_with fail
          go_region_held3 (fun w' => w'.cell? ⟨w.heap.size, 0, none⟩ = some (.slice a0 os.length c0) ∧ w'.cell? ⟨b', off' + i, none⟩ = some (.int .i64 (x : Int)) ∧ w'.cell? ⟨b, off + i, none⟩ = some (.int .i64 (p : Int))) (exact ⟨by assumption, by assumption, by assumption⟩) (first
            | (go_at_call 83; refine (CM1.out _ h6.drew).mono ?_; rintro e w6 ⟨rfl, b6⟩; have h7 := h6.below (below_undrew b6) (Nat.le_refl _); have p1 := (b6.cell (p := ⟨b, off + i, none⟩) zb).trans d1; have p2 := (b6.cell (p := ⟨b', off' + i, none⟩) zb').trans d2; have p3 := (b6.cell (p := ⟨w.heap.size, 0, none⟩) zw).trans q6)
            | (go_at_call 102; refine (CA1.out _ h7).mono ?_; rintro e w7 ⟨rfl, b7⟩; have y1 := (b7.cell (p := ⟨b, off + i, none⟩) (Nat.lt_of_lt_of_le zb b6.size)).trans p1; have y2 := (b7.cell (p := ⟨b', off' + i, none⟩) (Nat.lt_of_lt_of_le zb' b6.size)).trans p2; have y3 := (b7.cell (p := ⟨w.heap.size, 0, none⟩) (Nat.lt_of_lt_of_le zw b6.size)).trans p3))
          go_wp2_with fail
          go_roundw
          case rel => exact ⟨i + 1, t, by omega, by go_num, rfl, HT, nx hbi (nx (below_undrew b6) b7)⟩
          case measure => simp [intOf]; omega
        · obtain rfl : i = ps.length := by omega
          have e := HPS.out
          rw [← HPL.out, ← HS.out, ← HLS.out] at e
          have HE := Lib.hid e
          have ho5 := ho4.below hbi (Nat.le_refl _)
          have hb5 := hb4.trans (hbi.mono hsz4)
          have hsz5 := Nat.le_trans hsz4 hbi.size
          have hs24 := HZL.out ps ps.length
          rw [← HS.out] at hs24
          have hLk2 : (ls ++ [(s : Int)]).length ≤ 1000000 := by rw [e]; have := HLL.out; simp; omega
          clear e HS ho4 hb4 hbi hsz4 HPS
          go_wp2_with (at_builtin; refine wpList_app rfl _ _ rfl (w.heap.size + 1) _ _ ls (s : Int) rfl rfl ho5 (wf_of (by omega) (by omega)) (by omega) hsz5 ?_)
          intro a' c' w6 o6 hgr
          have hb6 := hgr _ hb5
          have hg6 := hgr _ (Below.refl _ _)
          have hsz6 := Nat.le_trans hsz5 hg6.size
          clear hg6 hgr ho5 hb5 hsz5
          go_wp2_with fail
          go_roundw
          case rel => exact ⟨k + 1, ls ++ [(s : Int)], a', c', by omega, by go_num, by simp, HE, hLk2, o6, hb6, hsz6⟩
          case measure => simp [intOf]; omega
    · obtain rfl : k = n := by omega
      have e : ls = L := by rw [HLS.out, List.take_of_length_le]; rw [HLL.out]; exact Nat.le_refl _
      subst e
      clear HC HLL HLS
      go_wp2_with fail
      refine (C.out _ h3).mono ?_; rintro e w3 ⟨rfl, b3⟩
      have hb3 := hbel.trans (b3.mono hsz)
      have ho3 := ho.below b3 (Nat.le_refl _)
      go_wp2_with fail
      go_ret
      exact ⟨_, _, rfl, ho3.mono (by omega), hb0.trans (hb3.mono (by omega))⟩
end Go.Proofs.Ytokpgbpdmfibjaa
