/-
Contract of the reference's l15Find. Conditions: groups, lists of elements, at most 5 numbers.
-/
import Derived.Test.YtokpgbpdmfibjaaFfl
import Derived.Test.YtokpgbpdmfibjaaCms
import Derived.Deep.RegionHeld3
namespace Go.Proofs.Ytokpgbpdmfibjaa
open Go.RowKit Go.ChangeShapes
set_option linter.unusedVariables false
set_option linter.unusedSimpArgs false

/-- Appending a list at a step of a region that draws its order. -/
theorem step_appAll {ops : Array Oper} {o : Oper} {a : Act} {K : Act → World → Prop} {Q : Exit → Act → World → Prop} {E : Prop} {w : World} (hg : o.guard = none) (s x : Operand)
    (hop : o.op = .call { callee := .builtin .append, args := #[s, x], argTypes := #[24, 24] })
    (B : Nat) (ad : Option Addr) (c : Nat) (xs : List Int) (ad2 : Addr) (c2 : Nat) (ys : List Int) (hs : a.eval s = .slice ad xs.length c) (hx : a.eval x = .slice (some ad2) ys.length c2)
    (hown : OwnI w B ad c xs) (hy : Ints w (some ad2) c2 ys) (hlen : xs.length ≤ 2000000) (hlen2 : ys.length ≤ 2000000) (hB : B ≤ w.heap.size)
    (hK : ∀ ad' c' w', OwnI w' B ad' c' (xs ++ ys) → (∀ W, Below B W w → Below B W w') → w.grownBy w' (Value.slice ad xs.length c).ownBlock → K (a.put o.dst (.slice ad' (xs.length + ys.length) c')) w') :
    if Region.wanted o (yielded ops a.tmps) = true then Oper.wp Try.prog o a w K Q else E := by
  have hw : Region.wanted o (yielded ops a.tmps) = true := by simp [Region.wanted, hg]
  rw [if_pos hw]
  obtain ⟨i0, hi, hz0, hz1, hz2⟩ := info_parts infoI
  have hcells : ∀ j u, (ys.map (Value.int .i64))[j]? = some u → w.cell? (ad2.add j) = some u := by
    intro j u hu
    rcases hy.2.2.2.2 with h | ⟨b, off, ha, _, hc⟩
    · subst h; simp at hu
    · obtain rfl : ad2 = ⟨b, off, none⟩ := by simpa using ha
      have hj : j < ys.length := by
        have := (List.getElem?_eq_some_iff.1 hu).1
        simpa using this
      rw [Addr.add_lit, hc j hj]
      simpa [hj] using hu
  refine wp_append_own _ s x 24 hop B 3 i0 (.int .i64 0) 1 8 Try.underlying24 hi hz0 hz1 hz2 rfl (by decide) _ _ _ hs hown.2 ad2 ys.length c2 (ys.map (.int .i64)) hx (by simp) hcells (ints_oneCell _ _) ?_ ?_ hB ?_
  · unfold maxLen; omega
  · omega
  · intro v' w1 hown' hgrow _
    obtain ⟨a', c', rfl, hO⟩ := OwnI.appAll hown.1 hy.wf rfl hown'
    have h := hK a' c' w1 hO (fun W hW => hW.grown hgrow hB (hown.ownBlock)) hgrow
    simpa using h
theorem OwnI.addrF {w : World} {B : Nat} {a : Option Addr} {cap : Nat} {xs : List Int} (h : OwnI w B a cap xs) (hx : 0 < xs.length) : ∃ g, a = some ⟨g, 0, none⟩ := by
  rcases h.2.2 with ⟨hv, hn⟩ | ⟨g, c, cur, hv, hg, hh, hnc, hcm, hcs, htake⟩
  · omega
  · simp only [Value.slice.injEq, true_and] at hv
    obtain ⟨rfl, rfl⟩ := hv
    exact ⟨g, rfl⟩
theorem OwnI.oneF {w : World} {B g : Nat} {x : Int} (hg : g = w.heap.size) (hB : B ≤ g) (hx : (Lit.int .i64 x).wf = true) : OwnI (w.alloc (.cells #[.int .i64 x] 3)) B (some ⟨g, 0, none⟩) 1 [x] := by
  subst hg
  exact ⟨by simpa using hx, by simp, .inr ⟨w.heap.size, 1, #[.int .i64 x], rfl, hB, heap_alloc_new w _, by simp, by simp [maxLen], by simp, by simp⟩⟩
theorem below_drewF {B : Nat} {a w : World} (h : Below B a w) (n : Nat) : Below B a (w.drewN n) := ⟨h.os, h.tape, h.output, h.size, h.block⟩
theorem below_allocM' (w : World) (o : Obj) : Below w.heap.size w (w.alloc o) := (Below.refl w.heap.size w).alloc (Nat.le_refl _) o
set_option maxRecDepth 20000 in
set_option maxHeartbeats 12800000 in
theorem find15_any (w0 : World) (ag : Option Addr) (cg : Nat) (os : List Int) (ah : Option Addr) (ch : Nat) (hs : List Int) (bl ol cl : Nat) (l : List Int) (b : Nat) (H0 : Ints w0 ag cg os) (H1 : Ints w0 ah ch hs) (HL : Ints w0 (some ⟨bl, ol, none⟩) cl l) (hg0 : grpB os = true) (hh0 : grpB hs = true) (hl5 : l.length ≤ 5) (hle : ∀ x ∈ l, 0 ≤ x ∧ x < 1000) (hb40 : b < 1099511627776) (hbm : ∀ x ∈ mems b, 0 ≤ x ∧ x < 1000) :
    ∀ (d : Nat) (m : List Int) (am : Addr) (cm : Nat) (w : World), m.length + d = l.length → (∀ y ∈ m, 0 ≤ y ∧ y < 1000) → Ints w (some am) cm m → Below w0.heap.size w0 w →
    Calls Try.prog 124 #[.agg #[.slice ag os.length cg], .agg #[.slice ah hs.length ch], .slice (some ⟨bl, ol, none⟩) l.length cl, .slice (some am) m.length cm, .int .i64 (b : Int)] w fun e w' =>
      ∃ (r : List Int) (ar : Option Addr) (cr : Nat), e = .returned (.tuple #[.slice ar r.length cr, .bool (fiS os hs l (mems b) d m).isSome]) ∧ (fiS os hs l (mems b) d m).getD (if d = 0 then m else []) = r ∧ r.length ≤ 5 ∧ Ints w' ar cr r ∧ Below w.heap.size w w' := by
  intro d
  induction d with
  | zero =>
    intro m am cm w hid hm hI hbel
    have hlb : ((m.length : Int) == (l.length : Int)) = true := by simp; omega
    have X0 := KpW.start w ag cg os ah ch hs
    have q1 := X0.c1
    have q2 := X0.c2
    have C := Lib.hid (fun w h0 h1 k0 k1 => fs_spec ag cg os ah ch hs (some ⟨bl, ol, none⟩) cl l (some am) cm m w h0 h1 k0 k1 (by have := (grp_parts hg0).1; omega) (by have := (grp_parts hh0).1; omega) (by omega) (by omega))
    have HV : Hid ((fiS os hs l (mems b) 0 m).isSome = fsB os hs l m ∧ (fiS os hs l (mems b) 0 m).getD (if 0 = 0 then m else []) = m) := Lib.hid (by
      unfold fiS
      cases fsB os hs l m <;> simp)
    rw [HV.out.1, HV.out.2]
    have hb0 := hbel.trans (X0.bel.mono hbel.size)
    have C1 := Lib.hid (C.out _ (H0.below hb0 (Nat.le_refl _)) (H1.below hb0 (Nat.le_refl _)) (HL.below hb0 (Nat.le_refl _)) (hI.below X0.bel (Nat.le_refl _)))
    have HI := Lib.hid hI
    have hm5 : m.length ≤ 5 := by omega
    obtain ⟨V, hV⟩ : ∃ v, v = fsB os hs l m := ⟨_, rfl⟩
    rw [← hV] at C1 ⊢
    clear hid hm hI hb0 hbel C H0 H1 HL hV HV
    go_enter Try.func124, Try.ntmps124
    go_wp2_with fail
    refine C1.out.mono ?_; rintro e w1 ⟨rfl, b1⟩
    have X1 := X0.next b1
    go_wp2_with fail
    go_ret2
    exact ⟨m, _, _, rfl, rfl, hm5, HI.out.below X1.bel (Nat.le_refl _), X1.bel⟩
  | succ d ih =>
    intro m am cm w hid hm hI hbel
    have hlb : ((m.length : Int) == (l.length : Int)) = false := by simp; omega
    have X0 := KpW.start w ag cg os ah ch hs
    have IH := Lib.hid ih
    have HID := Lib.hid hid
    have HM := Lib.hid hm
    have HI := Lib.hid hI
    have HLE := Lib.hid hle
    have HBM := Lib.hid hbm
    have hml5 : m.length ≤ 4 := by omega
    have hml : m.length ≤ 2000000 := by omega
    have hcl : l.length ≤ cl := HL.1
    have HLL := Lib.hid HL
    have HHG := Lib.hid hh0
    have HGG := Lib.hid hg0
    have hhl := (grp_parts hh0).1
    have CL := Lib.hid (l3List_any b hb40)
    obtain ⟨F, hF⟩ : ∃ F : Int → Option (List Int), F = fun x => if (soB hs (m ++ [x]) && kpB os hs l (m ++ [x]) (m.length + 1)) = true then fiS os hs l (mems b) d (m ++ [x]) else none := ⟨_, rfl⟩
    have hFe : fiS os hs l (mems b) (d + 1) m = (mems b).findSome? F := by rw [hF]; rfl
    have HFX : Hid (∀ x, F x = if (soB hs (m ++ [x]) && kpB os hs l (m ++ [x]) (m.length + 1)) = true then fiS os hs l (mems b) d (m ++ [x]) else none) := Lib.hid (fun x => by rw [hF])
    rw [hFe]
    obtain ⟨Lb, hLb⟩ : ∃ L, L = mems b := ⟨_, rfl⟩
    obtain ⟨R, hR⟩ : ∃ R, R = Lb.findSome? F := ⟨_, rfl⟩
    rw [← hLb] at CL HFX IH HBM ⊢
    rw [← hR]
    have HR0 : Hid ((Lb.drop 0).findSome? F = R) := Lib.hid (by rw [hR]; rfl)
    have hLl : Lb.length ≤ 64 := by rw [hLb]; exact mems_len b
    have hsz0 := X0.bel.size
    clear ih hid hm hI hle hbm HL hF hFe hLb hR hh0 hg0 hb40
    go_enter Try.func124, Try.ntmps124
    go_wp2_with fail
    refine (CL.out _).mono ?_; rintro e w1 ⟨ay, cy, rfl, oy_, b1⟩
    have X1 := X0.next b1
    have iY := oy_.ints
    clear X0 b1 oy_ CL
    go_wp2_with fail
    go_loopw [13] (fun vi wr => ∃ k : Nat, k ≤ Lb.length ∧ vi = .int .i64 (k : Int) ∧ Hid ((Lb.drop k).findSome? F = R) ∧ KpW w ag cg os ah ch hs wr ∧ Ints wr ay cy Lb) (fun vi _ => Lb.length - (intOf vi).toNat)
    case atStart => exact ⟨0, by omega, rfl, HR0, X1, iY⟩
    case round =>
      clear X1 iY HR0
      obtain ⟨k, hk, rfl, HR, X, iY⟩ := hrel
      by_cases hlk : k < Lb.length
      · have hki : (k : Int) < Lb.length := by omega
        rcases iY.2.2.2.2 with h | ⟨by_, oy, rfl, hyB, hyc⟩
        · rw [h] at hlk; simp at hlk
        have dX := hyc k hlk
        have hst := HR.out
        rw [List.drop_eq_getElem_cons hlk, List.findSome?_cons] at hst
        have hxm := HBM.out _ (List.getElem_mem hlk)
        obtain ⟨x, hx⟩ : ∃ x, x = Lb[k] := ⟨_, rfl⟩
        rw [← hx] at dX hst hxm
        have hxw : (Lit.int .i64 x).wf = true := wf_of (by omega) (by omega)
        have hFx := HFX.out x
        clear hyc hx HR
        obtain ⟨wB, hwB⟩ : ∃ W, W = wr.drew := ⟨_, rfl⟩
        have XB : KpW w ag cg os ah ch hs wB := by rw [hwB]; exact X.drew
        have iM : Ints wB (some am) cm m := by rw [hwB]; exact (HI.out.below X.bel (Nat.le_refl _)).drew
        have iYB : Ints wB (some ⟨by_, oy, none⟩) cy Lb := by rw [hwB]; exact iY.drew
        have hyB' : by_ < wB.heap.size := by rw [hwB]; exact hyB
        have dXB : wB.cell? ⟨by_, oy + k, none⟩ = some (.int .i64 x) := by rw [hwB]; exact dX
        have hb : Below wB.heap.size wB wB := Below.refl _ _
        have HBW := Lib.hid hbel
        go_wp2_with fail
        refine wp_region_held_drew (S := (fun w' => w'.cell? ⟨by_, oy + k, none⟩ = some (.int .i64 x))) (by as_aux_lemma => kernel_rfl) dX (fun hHeld => ?_)
        rw [← hwB] at hHeld ⊢
        obtain ⟨WC, hWC0⟩ : ∃ W, W = wB := ⟨_, rfl⟩
        rw [← hWC0] at hHeld ⊢
        have hb : Below wB.heap.size wB WC := by rw [hWC0]; exact Below.refl _ _
        have dX := dXB
        have hyB := hyB'
        clear hWC0
        refine wpAnyH_take (i := 1) (v := ?_) rfl (by as_aux_lemma => kernel_rfl) (by as_aux_lemma => kernel_rfl) (by as_aux_lemma => kernel_rfl) (fun _ _ _ h => h) (Or.inl ⟨by first | kernel_rfl | rfl, ?_⟩) (by assumption) ?_
        rotate_left
        · intro w hSw
          (try dsimp only at hSw)
          (try go_split_ands)
          go_simp
          try with_reducible rfl
        (try simp only [Act.put, List.setIfInBounds_toArray, List.set_cons_zero, List.set_cons_succ])
        refine wpAnyH_take (i := 3) (v := ?_) rfl (by as_aux_lemma => kernel_rfl) (by as_aux_lemma => kernel_rfl) (by as_aux_lemma => kernel_rfl) (fun _ _ _ h => h) (Or.inl ⟨by first | kernel_rfl | rfl, ?_⟩) (by assumption) ?_
        rotate_left
        · intro w hSw
          (try dsimp only at hSw)
          (try go_split_ands)
          go_simp
          try with_reducible rfl
        (try simp only [Act.put, List.setIfInBounds_toArray, List.set_cons_zero, List.set_cons_succ])
        refine wpAnyH_take (i := 4) (v := ?_) rfl (by as_aux_lemma => kernel_rfl) (by as_aux_lemma => kernel_rfl) (by as_aux_lemma => kernel_rfl) (fun _ _ _ h => h) (Or.inl ⟨by first | kernel_rfl | rfl, ?_⟩) (by assumption) ?_
        rotate_left
        · intro w hSw
          (try dsimp only at hSw)
          (try go_split_ands)
          go_simp
          try with_reducible rfl
        (try simp only [Act.put, List.setIfInBounds_toArray, List.set_cons_zero, List.set_cons_succ])
        refine wpAnyH_take (i := 5) (v := ?_) rfl (by as_aux_lemma => kernel_rfl) (by as_aux_lemma => kernel_rfl) (by as_aux_lemma => kernel_rfl) (fun _ _ _ h => h) (Or.inl ⟨by first | kernel_rfl | rfl, ?_⟩) (by assumption) ?_
        rotate_left
        · intro w hSw
          (try dsimp only at hSw)
          (try go_split_ands)
          go_simp
          try with_reducible rfl
        (try simp only [Act.put, List.setIfInBounds_toArray, List.set_cons_zero, List.set_cons_succ])
        refine wpAnyH_take (i := 6) (v := ?_) rfl (by as_aux_lemma => kernel_rfl) (by as_aux_lemma => kernel_rfl) (by as_aux_lemma => kernel_rfl) (fun _ _ _ h => h) (Or.inl ⟨by first | kernel_rfl | rfl, ?_⟩) (by assumption) ?_
        rotate_left
        · intro w hSw
          (try dsimp only at hSw)
          (try go_split_ands)
          go_simp
          try with_reducible rfl
        (try simp only [Act.put, List.setIfInBounds_toArray, List.set_cons_zero, List.set_cons_succ])
        refine wpAnyH_ready (rs := [0, 7]) (by as_aux_lemma => kernel_rfl) (by simp) ?_
        refine AllReadyH.cons rfl (fun K hK => ?_) (AllReadyH.cons rfl (fun K hK => ?_) AllReadyH.nil)
        · skip
          go_simp
          obtain ⟨W2, hW2⟩ : ∃ w, w = WC.alloc (.cells #[] 3) := ⟨_, rfl⟩
          have hb2 : Below wB.heap.size wB W2 := by rw [hW2]; exact hb.alloc hb.size _
          have hz2 : WC.heap.size < W2.heap.size := by rw [hW2]; simp
          have e0 : OwnI W2 wB.heap.size (some ⟨WC.heap.size, 0, none⟩) 0 [] := by rw [hW2]; exact OwnI.made_at rfl hb.size
          obtain ⟨be, hbe⟩ : ∃ b, b = WC.heap.size := ⟨_, rfl⟩
          rw [← hW2]
          (try rw [← hbe])
          (try rw [← hbe] at e0)
          have hzE : be < W2.heap.size := by rw [hbe]; exact hz2
          have dX2 := (hb2.cell (p := ⟨by_, oy + k, none⟩) hyB).trans dX
          clear hW2 hb hz2 hbe
          obtain ⟨WC, hWC⟩ : ∃ w, w = W2 := ⟨_, rfl⟩
          subst hWC
          have hb := hb2
          clear hb2
          refine hK.out _ _ dX2 (fun hHeld => ?_)
          clear hK K dX2
          (try simp only [Act.put, List.setIfInBounds_toArray, List.set_cons_zero, List.set_cons_succ])
          refine wpAnyH_ready (rs := [2, 7]) (by as_aux_lemma => kernel_rfl) (by simp) ?_
          refine AllReadyH.cons rfl (fun K hK => ?_) (AllReadyH.cons rfl (fun K hK => ?_) AllReadyH.nil)
          · skip
            refine step_appAll rfl (.tmp 38) (.tmp 39) rfl wB.heap.size (some ⟨be, 0, none⟩) 0 [] am cm m rfl rfl e0 (iM.below hb (Nat.le_refl _)) (by simp) hml hb.size ?_
            intro a2 c2 W2 e2 hgr hg2
            have hb2 := hgr _ hb
            have dX2 := (hb2.cell (p := ⟨by_, oy + k, none⟩) hyB).trans dX
            rw [List.nil_append] at e2
            clear hgr hg2 hb e0
            obtain ⟨WC, hWC⟩ : ∃ w, w = W2 := ⟨_, rfl⟩
            subst hWC
            have hb := hb2
            clear hb2
            refine hK.out _ _ dX2 (fun hHeld => ?_)
            clear hK K dX2
            (try simp only [Act.put, List.setIfInBounds_toArray, List.set_cons_zero, List.set_cons_succ])
            (try simp only [List.length_nil, Nat.zero_add])
            refine wpAnyH_ready (rs := [7]) (by as_aux_lemma => kernel_rfl) (by simp) ?_
            refine AllReadyH.cons rfl (fun K hK => ?_) AllReadyH.nil
            · skip
              go_simp
              obtain ⟨W2, hW2⟩ : ∃ w, w = WC.alloc (.cells #[.int .i64 x] 3) := ⟨_, rfl⟩
              have hb2 : Below wB.heap.size wB W2 := by rw [hW2]; exact hb.alloc hb.size _
              have hz2 : WC.heap.size < W2.heap.size := by rw [hW2]; simp
              have i7 : Ints W2 (some ⟨WC.heap.size, 0, none⟩) 1 [x] := by rw [hW2]; exact (OwnI.oneF rfl (Nat.le_refl _) hxw).ints
              have e2 : OwnI W2 wB.heap.size a2 c2 m := by rw [hW2]; exact e2.alloc _
              obtain ⟨b7, hb7⟩ : ∃ b, b = WC.heap.size := ⟨_, rfl⟩
              have hz7 : b7 < W2.heap.size := by rw [hb7]; exact hz2
              rw [← hW2]
              (try rw [← hb7])
              (try rw [← hb7] at i7)
              have dX2 := (hb2.cell (p := ⟨by_, oy + k, none⟩) hyB).trans dX
              clear hW2 hb hz2 hb7
              obtain ⟨WC, hWC⟩ : ∃ w, w = W2 := ⟨_, rfl⟩
              subst hWC
              have hb := hb2
              clear hb2
              refine hK.out _ _ dX2 (fun hHeld => ?_)
              clear hK K dX2
              (try simp only [Act.put, List.setIfInBounds_toArray, List.set_cons_zero, List.set_cons_succ])
              refine wpAnyH_ready (rs := [8]) (by as_aux_lemma => kernel_rfl) (by simp) ?_
              refine AllReadyH.cons rfl (fun K hK => ?_) AllReadyH.nil
              · skip
                refine step_appAll rfl (.tmp 40) (.tmp 45) rfl wB.heap.size a2 c2 m ⟨b7, 0, none⟩ 1 [x] rfl rfl e2 i7 hml (by simp) hb.size ?_
                intro a3 c3 W2 e3 hgr hg2
                have hb2 := hgr _ hb
                have dX2 := (hb2.cell (p := ⟨by_, oy + k, none⟩) hyB).trans dX
                clear hgr hg2 hb e2 i7
                obtain ⟨WC, hWC⟩ : ∃ w, w = W2 := ⟨_, rfl⟩
                subst hWC
                have hb := hb2
                clear hb2
                refine hK.out _ _ dX2 (fun hHeld => ?_)
                clear hK K dX2
                (try simp only [Act.put, List.setIfInBounds_toArray, List.set_cons_zero, List.set_cons_succ])
                refine wpAnyH_take (i := 9) (v := ?_) rfl (by as_aux_lemma => kernel_rfl) (by as_aux_lemma => kernel_rfl) (by as_aux_lemma => kernel_rfl) (fun _ _ _ h => h) (Or.inl ⟨by first | kernel_rfl | rfl, ?_⟩) (by assumption) ?_
                rotate_left
                · intro w hSw
                  (try dsimp only at hSw)
                  (try go_split_ands)
                  go_simp
                  try with_reducible rfl
                (try simp only [Act.put, List.setIfInBounds_toArray, List.set_cons_zero, List.set_cons_succ])
                refine wpAnyH_done (by as_aux_lemma => kernel_rfl) ?_ _
                (try simp only [List.getElem_toArray, List.getElem_cons_succ, List.getElem_cons_zero, Act.put, List.setIfInBounds_toArray, List.set_cons_zero, List.set_cons_succ])
                have X6 := XB.next hb
                have HBX := Lib.hid (HBW.out.trans (X6.bel.mono HBW.out.size))
                have hlen2 : (m ++ [x]).length = m.length + 1 := by simp
                have hdl : (m ++ [x]).length + d = l.length := by have := HID.out; simp only [List.length_append, List.length_singleton]; omega
                have hdx : ∀ z ∈ m ++ [x], 0 ≤ z ∧ z < 1000 := fun z hz => by
                  rcases List.mem_append.1 hz with h | h
                  · exact HM.out z h
                  · simp at h; subst h; omega
                obtain ⟨g3, rfl⟩ := e3.addrF (by simp)
                have iD := e3.ints
                have iYC := iYB.below hb (Nat.le_refl _)
                have hnl : m.length + 1 ≤ l.length := by have := HID.out; omega
                obtain ⟨D, hD⟩ : ∃ D, D = m ++ [x] := ⟨_, rfl⟩
                rw [← hD] at hlen2 hdl hdx iD hFx
                obtain ⟨n1, hn1⟩ : ∃ n, n = m.length + 1 := ⟨_, rfl⟩
                have hncl : n1 ≤ cl := by omega
                have hn1i : ((m.length : Int) + 1) = (n1 : Int) := by omega
                have hn1c : (n1 : Int) ≤ cl := by omega
                have CSO := Lib.hid (fun w h k => setOf_spec ah ch hs (some ⟨g3, 0, none⟩) c3 D w h k (by omega) (by omega))
                have KE := Lib.hid (show ∀ w, Ints w ag cg os → Ints w ah ch hs → Ints w (some ⟨bl, ol, none⟩) cl (l.take n1) → Ints w (some ⟨g3, 0, none⟩) c3 D → Calls Try.prog 130 #[.agg #[.slice ag os.length cg], .agg #[.slice ah hs.length ch], .slice (some ⟨bl, ol, none⟩) n1 cl, .slice (some ⟨g3, 0, none⟩) (m.length + 1) c3] w fun e w' => e = .returned (.bool (kpB os hs (l.take n1) D n1)) ∧ Below w.heap.size w w' from fun w h0 h1 k0 k1 => by
                  rw [← hn1]
                  exact keeps_spec ag cg os ah ch hs (some ⟨bl, ol, none⟩) cl (l.take n1) (some ⟨g3, 0, none⟩) c3 D n1 w h0 h1 k0 k1 HGG.out HHG.out (by rw [List.length_take]; omega) (by omega) (by omega) (fun y hy => HLE.out y (List.mem_of_mem_take hy)) hdx)
                rw [kpB_take] at KE
                have CI := Lib.hid (IH.out D ⟨g3, 0, none⟩ c3)
                rw [hlen2] at CI CSO
                rw [← hn1] at hFx
                obtain ⟨sv, hsv⟩ : ∃ v, v = soV hs D := ⟨_, rfl⟩
                obtain ⟨sb, hsb⟩ : ∃ v, v = soB hs D := ⟨_, rfl⟩
                obtain ⟨kb, hkb⟩ : ∃ v, v = kpB os hs l D n1 := ⟨_, rfl⟩
                obtain ⟨V, hV⟩ : ∃ v, v = fiS os hs l Lb d D := ⟨_, rfl⟩
                rw [← hsv, ← hsb] at CSO
                rw [← hkb] at KE
                rw [← hV] at CI
                rw [← hsb, ← hkb, ← hV] at hFx
                have HDX := Lib.hid hdx
                have HDL : Hid (m.length + 1 + d = l.length) := Lib.hid (by omega)
                have HDE : Hid (D.length = m.length + 1) := Lib.hid hlen2
                have hw0 := HBW.out.size
                have hwC := X6.bel.size
                rw [hFx] at hst
                have q2 := X6.c2
                clear e3 hb hD hlen2 hdl hdx hn1 hsv hsb hkb hV hFx iYB XB dXB hyB hyB' dX iM
                go_wp2_with fail
                refine (CSO.out _ (H1.below HBX.out (Nat.le_refl _)) iD).mono ?_; rintro e w5 ⟨rfl, b5⟩
                have X7 := X6.next b5
                have iD7 := iD.below b5 (Nat.le_refl _)
                have iY7 := iYC.below b5 (Nat.le_refl _)
                have HB7 := Lib.hid (HBW.out.trans (X7.bel.mono HBW.out.size))
                clear X6 b5 q2 iD iYC CSO
                cases sb with
                | false =>
                  have hst2 := Lib.hid (show (Lb.drop (k + 1)).findSome? F = R by simpa using hst)
                  clear hst CI KE
                  go_wp2_with fail
                  refine wp_region_quiet_lit (by kernel_rfl) (by kernel_rfl) ?_
                  repeat (any_goals (first | go_big_quiet_step (fail) | quiet_step (fail)))
                  refine wpQuiet_nil ?_
                  intro _ hw'
                  obtain ⟨nq, hw''⟩ := hw'
                  subst hw''
                  go_wp2_with fail
                  go_roundw
                  case rel => exact ⟨k + 1, by omega, by go_num, hst2, ⟨below_drewF X7.bel nq, X7.c1, X7.c2, X7.lt⟩, iY7⟩
                  case measure => simp [intOf]; omega
                | true =>
                  have q1 := X7.c1
                  have q2 := X7.c2
                  cases kb with
                  | false =>
                    have hst2 := Lib.hid (show (Lb.drop (k + 1)).findSome? F = R by simpa using hst)
                    clear hst CI
                    go_wp2_with fail
                    go_region_held3 (fun w' => w'.cell? ⟨w.heap.size, 0, none⟩ = some (.slice ag os.length cg) ∧ w'.cell? ⟨w.heap.size + 1, 0, none⟩ = some (.slice ah hs.length ch)) (exact ⟨by assumption, by assumption⟩) (first
                      | (go_at_call 130; refine (KE.out _ (H0.below HB7.out (Nat.le_refl _)).drew (H1.below HB7.out (Nat.le_refl _)).drew ((HLL.out.takeI n1).below HB7.out (Nat.le_refl _)).drew iD7.drew).mono ?_; rintro e w8 ⟨rfl, b8⟩; have X8 := X7.drew.next b8; have q5 := X8.c1; have q6 := X8.c2))
                    have iY8 := iY7.drew.below b8 (Nat.le_refl _)
                    go_wp2_with fail
                    go_roundw
                    case rel => exact ⟨k + 1, by omega, by go_num, hst2, X8, iY8⟩
                    case measure => simp [intOf]; omega
                  | true =>
                    go_wp2_with fail
                    go_region_held3 (fun w' => w'.cell? ⟨w.heap.size, 0, none⟩ = some (.slice ag os.length cg) ∧ w'.cell? ⟨w.heap.size + 1, 0, none⟩ = some (.slice ah hs.length ch)) (exact ⟨by assumption, by assumption⟩) (first
                      | (go_at_call 130; refine (KE.out _ (H0.below HB7.out (Nat.le_refl _)).drew (H1.below HB7.out (Nat.le_refl _)).drew ((HLL.out.takeI n1).below HB7.out (Nat.le_refl _)).drew iD7.drew).mono ?_; rintro e w8 ⟨rfl, b8⟩; have X8 := X7.drew.next b8; have q5 := X8.c1; have q6 := X8.c2))
                    have iY8 := iY7.drew.below b8 (Nat.le_refl _)
                    have X8' := X7.drew.next b8
                    have q7 := X8'.c1
                    have q8 := X8'.c2
                    have CI2 := Lib.hid (CI.out w8 (by have := HDL.out; have := HDE.out; omega) HDX.out (iD7.drew.below b8 (Nat.le_refl _)) (HBW.out.trans (X8'.bel.mono hw0)))
                    clear CI KE b8 q1 q2
                    go_wp2_with fail
                    refine CI2.out.mono ?_; rintro e w9 ⟨r, ar, cr, rfl, hr, hr5, ir, b9⟩
                    have X9 := X8'.next b9
                    have iY9 := iY8.below b9 (Nat.le_refl _)
                    clear CI2 X8' b9 iY8 q7 q8
                    cases V with
                    | none =>
                      have hst2 := Lib.hid (show (Lb.drop (k + 1)).findSome? F = R by simpa using hst)
                      clear hst hr
                      go_wp2_with fail
                      go_roundw
                      case rel => exact ⟨k + 1, by omega, by go_num, hst2, X9, iY9⟩
                      case measure => simp [intOf]; omega
                    | some y =>
                      obtain rfl : R = some y := by simpa using hst.symm
                      obtain rfl : y = r := hr
                      clear hst
                      go_wp2_with fail
                      go_ret2
                      exact ⟨y, _, _, rfl, rfl, hr5, ir, X9.bel⟩
          · skip
            go_simp
            obtain ⟨W2, hW2⟩ : ∃ w, w = WC.alloc (.cells #[.int .i64 x] 3) := ⟨_, rfl⟩
            have hb2 : Below wB.heap.size wB W2 := by rw [hW2]; exact hb.alloc hb.size _
            have hz2 : WC.heap.size < W2.heap.size := by rw [hW2]; simp
            have i7 : Ints W2 (some ⟨WC.heap.size, 0, none⟩) 1 [x] := by rw [hW2]; exact (OwnI.oneF rfl (Nat.le_refl _) hxw).ints
            have e0 : OwnI W2 wB.heap.size (some ⟨be, 0, none⟩) 0 [] := by rw [hW2]; exact e0.alloc _
            have hn7 : be ≠ WC.heap.size := by have := (e0.lt _ rfl).2; have : be < WC.heap.size := hzE; omega
            obtain ⟨b7, hb7⟩ : ∃ b, b = WC.heap.size := ⟨_, rfl⟩
            have hz7 : b7 < W2.heap.size := by rw [hb7]; exact hz2
            rw [← hW2]
            (try rw [← hb7])
            (try rw [← hb7] at i7)
            rw [← hb7] at hn7
            have hzE : be < W2.heap.size := by omega
            have dX2 := (hb2.cell (p := ⟨by_, oy + k, none⟩) hyB).trans dX
            clear hW2 hb hz2 hb7
            obtain ⟨WC, hWC⟩ : ∃ w, w = W2 := ⟨_, rfl⟩
            subst hWC
            have hb := hb2
            clear hb2
            refine hK.out _ _ dX2 (fun hHeld => ?_)
            clear hK K dX2
            (try simp only [Act.put, List.setIfInBounds_toArray, List.set_cons_zero, List.set_cons_succ])
            refine wpAnyH_ready (rs := [2]) (by as_aux_lemma => kernel_rfl) (by simp) ?_
            refine AllReadyH.cons rfl (fun K hK => ?_) AllReadyH.nil
            · skip
              refine step_appAll rfl (.tmp 38) (.tmp 39) rfl wB.heap.size (some ⟨be, 0, none⟩) 0 [] am cm m rfl rfl e0 (iM.below hb (Nat.le_refl _)) (by simp) hml hb.size ?_
              intro a2 c2 W2 e2 hgr hg2
              have hb2 := hgr _ hb
              have i7 := i7.grown hg2 (fun y hy => by cases hy; simpa [Value.ownBlock] using hn7)
              have hz7 : b7 < W2.heap.size := Nat.lt_of_lt_of_le hz7 hg2.size
              have dX2 := (hb2.cell (p := ⟨by_, oy + k, none⟩) hyB).trans dX
              rw [List.nil_append] at e2
              clear hgr hg2 hb e0
              obtain ⟨WC, hWC⟩ : ∃ w, w = W2 := ⟨_, rfl⟩
              subst hWC
              have hb := hb2
              clear hb2
              refine hK.out _ _ dX2 (fun hHeld => ?_)
              clear hK K dX2
              (try simp only [Act.put, List.setIfInBounds_toArray, List.set_cons_zero, List.set_cons_succ])
              (try simp only [List.length_nil, Nat.zero_add])
              refine wpAnyH_ready (rs := [8]) (by as_aux_lemma => kernel_rfl) (by simp) ?_
              refine AllReadyH.cons rfl (fun K hK => ?_) AllReadyH.nil
              · skip
                refine step_appAll rfl (.tmp 40) (.tmp 45) rfl wB.heap.size a2 c2 m ⟨b7, 0, none⟩ 1 [x] rfl rfl e2 i7 hml (by simp) hb.size ?_
                intro a3 c3 W2 e3 hgr hg2
                have hb2 := hgr _ hb
                have dX2 := (hb2.cell (p := ⟨by_, oy + k, none⟩) hyB).trans dX
                clear hgr hg2 hb e2 i7
                obtain ⟨WC, hWC⟩ : ∃ w, w = W2 := ⟨_, rfl⟩
                subst hWC
                have hb := hb2
                clear hb2
                refine hK.out _ _ dX2 (fun hHeld => ?_)
                clear hK K dX2
                (try simp only [Act.put, List.setIfInBounds_toArray, List.set_cons_zero, List.set_cons_succ])
                refine wpAnyH_take (i := 9) (v := ?_) rfl (by as_aux_lemma => kernel_rfl) (by as_aux_lemma => kernel_rfl) (by as_aux_lemma => kernel_rfl) (fun _ _ _ h => h) (Or.inl ⟨by first | kernel_rfl | rfl, ?_⟩) (by assumption) ?_
                rotate_left
                · intro w hSw
                  (try dsimp only at hSw)
                  (try go_split_ands)
                  go_simp
                  try with_reducible rfl
                (try simp only [Act.put, List.setIfInBounds_toArray, List.set_cons_zero, List.set_cons_succ])
                refine wpAnyH_done (by as_aux_lemma => kernel_rfl) ?_ _
                (try simp only [List.getElem_toArray, List.getElem_cons_succ, List.getElem_cons_zero, Act.put, List.setIfInBounds_toArray, List.set_cons_zero, List.set_cons_succ])
                have X6 := XB.next hb
                have HBX := Lib.hid (HBW.out.trans (X6.bel.mono HBW.out.size))
                have hlen2 : (m ++ [x]).length = m.length + 1 := by simp
                have hdl : (m ++ [x]).length + d = l.length := by have := HID.out; simp only [List.length_append, List.length_singleton]; omega
                have hdx : ∀ z ∈ m ++ [x], 0 ≤ z ∧ z < 1000 := fun z hz => by
                  rcases List.mem_append.1 hz with h | h
                  · exact HM.out z h
                  · simp at h; subst h; omega
                obtain ⟨g3, rfl⟩ := e3.addrF (by simp)
                have iD := e3.ints
                have iYC := iYB.below hb (Nat.le_refl _)
                have hnl : m.length + 1 ≤ l.length := by have := HID.out; omega
                obtain ⟨D, hD⟩ : ∃ D, D = m ++ [x] := ⟨_, rfl⟩
                rw [← hD] at hlen2 hdl hdx iD hFx
                obtain ⟨n1, hn1⟩ : ∃ n, n = m.length + 1 := ⟨_, rfl⟩
                have hncl : n1 ≤ cl := by omega
                have hn1i : ((m.length : Int) + 1) = (n1 : Int) := by omega
                have hn1c : (n1 : Int) ≤ cl := by omega
                have CSO := Lib.hid (fun w h k => setOf_spec ah ch hs (some ⟨g3, 0, none⟩) c3 D w h k (by omega) (by omega))
                have KE := Lib.hid (show ∀ w, Ints w ag cg os → Ints w ah ch hs → Ints w (some ⟨bl, ol, none⟩) cl (l.take n1) → Ints w (some ⟨g3, 0, none⟩) c3 D → Calls Try.prog 130 #[.agg #[.slice ag os.length cg], .agg #[.slice ah hs.length ch], .slice (some ⟨bl, ol, none⟩) n1 cl, .slice (some ⟨g3, 0, none⟩) (m.length + 1) c3] w fun e w' => e = .returned (.bool (kpB os hs (l.take n1) D n1)) ∧ Below w.heap.size w w' from fun w h0 h1 k0 k1 => by
                  rw [← hn1]
                  exact keeps_spec ag cg os ah ch hs (some ⟨bl, ol, none⟩) cl (l.take n1) (some ⟨g3, 0, none⟩) c3 D n1 w h0 h1 k0 k1 HGG.out HHG.out (by rw [List.length_take]; omega) (by omega) (by omega) (fun y hy => HLE.out y (List.mem_of_mem_take hy)) hdx)
                rw [kpB_take] at KE
                have CI := Lib.hid (IH.out D ⟨g3, 0, none⟩ c3)
                rw [hlen2] at CI CSO
                rw [← hn1] at hFx
                obtain ⟨sv, hsv⟩ : ∃ v, v = soV hs D := ⟨_, rfl⟩
                obtain ⟨sb, hsb⟩ : ∃ v, v = soB hs D := ⟨_, rfl⟩
                obtain ⟨kb, hkb⟩ : ∃ v, v = kpB os hs l D n1 := ⟨_, rfl⟩
                obtain ⟨V, hV⟩ : ∃ v, v = fiS os hs l Lb d D := ⟨_, rfl⟩
                rw [← hsv, ← hsb] at CSO
                rw [← hkb] at KE
                rw [← hV] at CI
                rw [← hsb, ← hkb, ← hV] at hFx
                have HDX := Lib.hid hdx
                have HDL : Hid (m.length + 1 + d = l.length) := Lib.hid (by omega)
                have HDE : Hid (D.length = m.length + 1) := Lib.hid hlen2
                have hw0 := HBW.out.size
                have hwC := X6.bel.size
                rw [hFx] at hst
                have q2 := X6.c2
                clear e3 hb hD hlen2 hdl hdx hn1 hsv hsb hkb hV hFx iYB XB dXB hyB hyB' dX iM
                go_wp2_with fail
                refine (CSO.out _ (H1.below HBX.out (Nat.le_refl _)) iD).mono ?_; rintro e w5 ⟨rfl, b5⟩
                have X7 := X6.next b5
                have iD7 := iD.below b5 (Nat.le_refl _)
                have iY7 := iYC.below b5 (Nat.le_refl _)
                have HB7 := Lib.hid (HBW.out.trans (X7.bel.mono HBW.out.size))
                clear X6 b5 q2 iD iYC CSO
                cases sb with
                | false =>
                  have hst2 := Lib.hid (show (Lb.drop (k + 1)).findSome? F = R by simpa using hst)
                  clear hst CI KE
                  go_wp2_with fail
                  refine wp_region_quiet_lit (by kernel_rfl) (by kernel_rfl) ?_
                  repeat (any_goals (first | go_big_quiet_step (fail) | quiet_step (fail)))
                  refine wpQuiet_nil ?_
                  intro _ hw'
                  obtain ⟨nq, hw''⟩ := hw'
                  subst hw''
                  go_wp2_with fail
                  go_roundw
                  case rel => exact ⟨k + 1, by omega, by go_num, hst2, ⟨below_drewF X7.bel nq, X7.c1, X7.c2, X7.lt⟩, iY7⟩
                  case measure => simp [intOf]; omega
                | true =>
                  have q1 := X7.c1
                  have q2 := X7.c2
                  cases kb with
                  | false =>
                    have hst2 := Lib.hid (show (Lb.drop (k + 1)).findSome? F = R by simpa using hst)
                    clear hst CI
                    go_wp2_with fail
                    go_region_held3 (fun w' => w'.cell? ⟨w.heap.size, 0, none⟩ = some (.slice ag os.length cg) ∧ w'.cell? ⟨w.heap.size + 1, 0, none⟩ = some (.slice ah hs.length ch)) (exact ⟨by assumption, by assumption⟩) (first
                      | (go_at_call 130; refine (KE.out _ (H0.below HB7.out (Nat.le_refl _)).drew (H1.below HB7.out (Nat.le_refl _)).drew ((HLL.out.takeI n1).below HB7.out (Nat.le_refl _)).drew iD7.drew).mono ?_; rintro e w8 ⟨rfl, b8⟩; have X8 := X7.drew.next b8; have q5 := X8.c1; have q6 := X8.c2))
                    have iY8 := iY7.drew.below b8 (Nat.le_refl _)
                    go_wp2_with fail
                    go_roundw
                    case rel => exact ⟨k + 1, by omega, by go_num, hst2, X8, iY8⟩
                    case measure => simp [intOf]; omega
                  | true =>
                    go_wp2_with fail
                    go_region_held3 (fun w' => w'.cell? ⟨w.heap.size, 0, none⟩ = some (.slice ag os.length cg) ∧ w'.cell? ⟨w.heap.size + 1, 0, none⟩ = some (.slice ah hs.length ch)) (exact ⟨by assumption, by assumption⟩) (first
                      | (go_at_call 130; refine (KE.out _ (H0.below HB7.out (Nat.le_refl _)).drew (H1.below HB7.out (Nat.le_refl _)).drew ((HLL.out.takeI n1).below HB7.out (Nat.le_refl _)).drew iD7.drew).mono ?_; rintro e w8 ⟨rfl, b8⟩; have X8 := X7.drew.next b8; have q5 := X8.c1; have q6 := X8.c2))
                    have iY8 := iY7.drew.below b8 (Nat.le_refl _)
                    have X8' := X7.drew.next b8
                    have q7 := X8'.c1
                    have q8 := X8'.c2
                    have CI2 := Lib.hid (CI.out w8 (by have := HDL.out; have := HDE.out; omega) HDX.out (iD7.drew.below b8 (Nat.le_refl _)) (HBW.out.trans (X8'.bel.mono hw0)))
                    clear CI KE b8 q1 q2
                    go_wp2_with fail
                    refine CI2.out.mono ?_; rintro e w9 ⟨r, ar, cr, rfl, hr, hr5, ir, b9⟩
                    have X9 := X8'.next b9
                    have iY9 := iY8.below b9 (Nat.le_refl _)
                    clear CI2 X8' b9 iY8 q7 q8
                    cases V with
                    | none =>
                      have hst2 := Lib.hid (show (Lb.drop (k + 1)).findSome? F = R by simpa using hst)
                      clear hst hr
                      go_wp2_with fail
                      go_roundw
                      case rel => exact ⟨k + 1, by omega, by go_num, hst2, X9, iY9⟩
                      case measure => simp [intOf]; omega
                    | some y =>
                      obtain rfl : R = some y := by simpa using hst.symm
                      obtain rfl : y = r := hr
                      clear hst
                      go_wp2_with fail
                      go_ret2
                      exact ⟨y, _, _, rfl, rfl, hr5, ir, X9.bel⟩
        · skip
          go_simp
          obtain ⟨W2, hW2⟩ : ∃ w, w = WC.alloc (.cells #[.int .i64 x] 3) := ⟨_, rfl⟩
          have hb2 : Below wB.heap.size wB W2 := by rw [hW2]; exact hb.alloc hb.size _
          have hz2 : WC.heap.size < W2.heap.size := by rw [hW2]; simp
          have i7 : Ints W2 (some ⟨WC.heap.size, 0, none⟩) 1 [x] := by rw [hW2]; exact (OwnI.oneF rfl (Nat.le_refl _) hxw).ints
          obtain ⟨b7, hb7⟩ : ∃ b, b = WC.heap.size := ⟨_, rfl⟩
          have hz7 : b7 < W2.heap.size := by rw [hb7]; exact hz2
          rw [← hW2]
          (try rw [← hb7])
          (try rw [← hb7] at i7)
          have dX2 := (hb2.cell (p := ⟨by_, oy + k, none⟩) hyB).trans dX
          clear hW2 hb hz2 hb7
          obtain ⟨WC, hWC⟩ : ∃ w, w = W2 := ⟨_, rfl⟩
          subst hWC
          have hb := hb2
          clear hb2
          refine hK.out _ _ dX2 (fun hHeld => ?_)
          clear hK K dX2
          (try simp only [Act.put, List.setIfInBounds_toArray, List.set_cons_zero, List.set_cons_succ])
          refine wpAnyH_ready (rs := [0]) (by as_aux_lemma => kernel_rfl) (by simp) ?_
          refine AllReadyH.cons rfl (fun K hK => ?_) AllReadyH.nil
          · skip
            go_simp
            obtain ⟨W2, hW2⟩ : ∃ w, w = WC.alloc (.cells #[] 3) := ⟨_, rfl⟩
            have hb2 : Below wB.heap.size wB W2 := by rw [hW2]; exact hb.alloc hb.size _
            have hz2 : WC.heap.size < W2.heap.size := by rw [hW2]; simp
            have e0 : OwnI W2 wB.heap.size (some ⟨WC.heap.size, 0, none⟩) 0 [] := by rw [hW2]; exact OwnI.made_at rfl hb.size
            have i7 : Ints W2 (some ⟨b7, 0, none⟩) 1 [x] := by rw [hW2]; exact i7.alloc _
            have hz7 : b7 < W2.heap.size := by omega
            have hn7 : WC.heap.size ≠ b7 := by omega
            obtain ⟨be, hbe⟩ : ∃ b, b = WC.heap.size := ⟨_, rfl⟩
            rw [← hW2]
            (try rw [← hbe])
            (try rw [← hbe] at e0)
            rw [← hbe] at hn7
            have hzE : be < W2.heap.size := by rw [hbe]; exact hz2
            have dX2 := (hb2.cell (p := ⟨by_, oy + k, none⟩) hyB).trans dX
            clear hW2 hb hz2 hbe
            obtain ⟨WC, hWC⟩ : ∃ w, w = W2 := ⟨_, rfl⟩
            subst hWC
            have hb := hb2
            clear hb2
            refine hK.out _ _ dX2 (fun hHeld => ?_)
            clear hK K dX2
            (try simp only [Act.put, List.setIfInBounds_toArray, List.set_cons_zero, List.set_cons_succ])
            refine wpAnyH_ready (rs := [2]) (by as_aux_lemma => kernel_rfl) (by simp) ?_
            refine AllReadyH.cons rfl (fun K hK => ?_) AllReadyH.nil
            · skip
              refine step_appAll rfl (.tmp 38) (.tmp 39) rfl wB.heap.size (some ⟨be, 0, none⟩) 0 [] am cm m rfl rfl e0 (iM.below hb (Nat.le_refl _)) (by simp) hml hb.size ?_
              intro a2 c2 W2 e2 hgr hg2
              have hb2 := hgr _ hb
              have i7 := i7.grown hg2 (fun y hy => by cases hy; simpa [Value.ownBlock] using hn7)
              have hz7 : b7 < W2.heap.size := Nat.lt_of_lt_of_le hz7 hg2.size
              have dX2 := (hb2.cell (p := ⟨by_, oy + k, none⟩) hyB).trans dX
              rw [List.nil_append] at e2
              clear hgr hg2 hb e0
              obtain ⟨WC, hWC⟩ : ∃ w, w = W2 := ⟨_, rfl⟩
              subst hWC
              have hb := hb2
              clear hb2
              refine hK.out _ _ dX2 (fun hHeld => ?_)
              clear hK K dX2
              (try simp only [Act.put, List.setIfInBounds_toArray, List.set_cons_zero, List.set_cons_succ])
              (try simp only [List.length_nil, Nat.zero_add])
              refine wpAnyH_ready (rs := [8]) (by as_aux_lemma => kernel_rfl) (by simp) ?_
              refine AllReadyH.cons rfl (fun K hK => ?_) AllReadyH.nil
              · skip
                refine step_appAll rfl (.tmp 40) (.tmp 45) rfl wB.heap.size a2 c2 m ⟨b7, 0, none⟩ 1 [x] rfl rfl e2 i7 hml (by simp) hb.size ?_
                intro a3 c3 W2 e3 hgr hg2
                have hb2 := hgr _ hb
                have dX2 := (hb2.cell (p := ⟨by_, oy + k, none⟩) hyB).trans dX
                clear hgr hg2 hb e2 i7
                obtain ⟨WC, hWC⟩ : ∃ w, w = W2 := ⟨_, rfl⟩
                subst hWC
                have hb := hb2
                clear hb2
                refine hK.out _ _ dX2 (fun hHeld => ?_)
                clear hK K dX2
                (try simp only [Act.put, List.setIfInBounds_toArray, List.set_cons_zero, List.set_cons_succ])
                refine wpAnyH_take (i := 9) (v := ?_) rfl (by as_aux_lemma => kernel_rfl) (by as_aux_lemma => kernel_rfl) (by as_aux_lemma => kernel_rfl) (fun _ _ _ h => h) (Or.inl ⟨by first | kernel_rfl | rfl, ?_⟩) (by assumption) ?_
                rotate_left
                · intro w hSw
                  (try dsimp only at hSw)
                  (try go_split_ands)
                  go_simp
                  try with_reducible rfl
                (try simp only [Act.put, List.setIfInBounds_toArray, List.set_cons_zero, List.set_cons_succ])
                refine wpAnyH_done (by as_aux_lemma => kernel_rfl) ?_ _
                (try simp only [List.getElem_toArray, List.getElem_cons_succ, List.getElem_cons_zero, Act.put, List.setIfInBounds_toArray, List.set_cons_zero, List.set_cons_succ])
                have X6 := XB.next hb
                have HBX := Lib.hid (HBW.out.trans (X6.bel.mono HBW.out.size))
                have hlen2 : (m ++ [x]).length = m.length + 1 := by simp
                have hdl : (m ++ [x]).length + d = l.length := by have := HID.out; simp only [List.length_append, List.length_singleton]; omega
                have hdx : ∀ z ∈ m ++ [x], 0 ≤ z ∧ z < 1000 := fun z hz => by
                  rcases List.mem_append.1 hz with h | h
                  · exact HM.out z h
                  · simp at h; subst h; omega
                obtain ⟨g3, rfl⟩ := e3.addrF (by simp)
                have iD := e3.ints
                have iYC := iYB.below hb (Nat.le_refl _)
                have hnl : m.length + 1 ≤ l.length := by have := HID.out; omega
                obtain ⟨D, hD⟩ : ∃ D, D = m ++ [x] := ⟨_, rfl⟩
                rw [← hD] at hlen2 hdl hdx iD hFx
                obtain ⟨n1, hn1⟩ : ∃ n, n = m.length + 1 := ⟨_, rfl⟩
                have hncl : n1 ≤ cl := by omega
                have hn1i : ((m.length : Int) + 1) = (n1 : Int) := by omega
                have hn1c : (n1 : Int) ≤ cl := by omega
                have CSO := Lib.hid (fun w h k => setOf_spec ah ch hs (some ⟨g3, 0, none⟩) c3 D w h k (by omega) (by omega))
                have KE := Lib.hid (show ∀ w, Ints w ag cg os → Ints w ah ch hs → Ints w (some ⟨bl, ol, none⟩) cl (l.take n1) → Ints w (some ⟨g3, 0, none⟩) c3 D → Calls Try.prog 130 #[.agg #[.slice ag os.length cg], .agg #[.slice ah hs.length ch], .slice (some ⟨bl, ol, none⟩) n1 cl, .slice (some ⟨g3, 0, none⟩) (m.length + 1) c3] w fun e w' => e = .returned (.bool (kpB os hs (l.take n1) D n1)) ∧ Below w.heap.size w w' from fun w h0 h1 k0 k1 => by
                  rw [← hn1]
                  exact keeps_spec ag cg os ah ch hs (some ⟨bl, ol, none⟩) cl (l.take n1) (some ⟨g3, 0, none⟩) c3 D n1 w h0 h1 k0 k1 HGG.out HHG.out (by rw [List.length_take]; omega) (by omega) (by omega) (fun y hy => HLE.out y (List.mem_of_mem_take hy)) hdx)
                rw [kpB_take] at KE
                have CI := Lib.hid (IH.out D ⟨g3, 0, none⟩ c3)
                rw [hlen2] at CI CSO
                rw [← hn1] at hFx
                obtain ⟨sv, hsv⟩ : ∃ v, v = soV hs D := ⟨_, rfl⟩
                obtain ⟨sb, hsb⟩ : ∃ v, v = soB hs D := ⟨_, rfl⟩
                obtain ⟨kb, hkb⟩ : ∃ v, v = kpB os hs l D n1 := ⟨_, rfl⟩
                obtain ⟨V, hV⟩ : ∃ v, v = fiS os hs l Lb d D := ⟨_, rfl⟩
                rw [← hsv, ← hsb] at CSO
                rw [← hkb] at KE
                rw [← hV] at CI
                rw [← hsb, ← hkb, ← hV] at hFx
                have HDX := Lib.hid hdx
                have HDL : Hid (m.length + 1 + d = l.length) := Lib.hid (by omega)
                have HDE : Hid (D.length = m.length + 1) := Lib.hid hlen2
                have hw0 := HBW.out.size
                have hwC := X6.bel.size
                rw [hFx] at hst
                have q2 := X6.c2
                clear e3 hb hD hlen2 hdl hdx hn1 hsv hsb hkb hV hFx iYB XB dXB hyB hyB' dX iM
                go_wp2_with fail
                refine (CSO.out _ (H1.below HBX.out (Nat.le_refl _)) iD).mono ?_; rintro e w5 ⟨rfl, b5⟩
                have X7 := X6.next b5
                have iD7 := iD.below b5 (Nat.le_refl _)
                have iY7 := iYC.below b5 (Nat.le_refl _)
                have HB7 := Lib.hid (HBW.out.trans (X7.bel.mono HBW.out.size))
                clear X6 b5 q2 iD iYC CSO
                cases sb with
                | false =>
                  have hst2 := Lib.hid (show (Lb.drop (k + 1)).findSome? F = R by simpa using hst)
                  clear hst CI KE
                  go_wp2_with fail
                  refine wp_region_quiet_lit (by kernel_rfl) (by kernel_rfl) ?_
                  repeat (any_goals (first | go_big_quiet_step (fail) | quiet_step (fail)))
                  refine wpQuiet_nil ?_
                  intro _ hw'
                  obtain ⟨nq, hw''⟩ := hw'
                  subst hw''
                  go_wp2_with fail
                  go_roundw
                  case rel => exact ⟨k + 1, by omega, by go_num, hst2, ⟨below_drewF X7.bel nq, X7.c1, X7.c2, X7.lt⟩, iY7⟩
                  case measure => simp [intOf]; omega
                | true =>
                  have q1 := X7.c1
                  have q2 := X7.c2
                  cases kb with
                  | false =>
                    have hst2 := Lib.hid (show (Lb.drop (k + 1)).findSome? F = R by simpa using hst)
                    clear hst CI
                    go_wp2_with fail
                    go_region_held3 (fun w' => w'.cell? ⟨w.heap.size, 0, none⟩ = some (.slice ag os.length cg) ∧ w'.cell? ⟨w.heap.size + 1, 0, none⟩ = some (.slice ah hs.length ch)) (exact ⟨by assumption, by assumption⟩) (first
                      | (go_at_call 130; refine (KE.out _ (H0.below HB7.out (Nat.le_refl _)).drew (H1.below HB7.out (Nat.le_refl _)).drew ((HLL.out.takeI n1).below HB7.out (Nat.le_refl _)).drew iD7.drew).mono ?_; rintro e w8 ⟨rfl, b8⟩; have X8 := X7.drew.next b8; have q5 := X8.c1; have q6 := X8.c2))
                    have iY8 := iY7.drew.below b8 (Nat.le_refl _)
                    go_wp2_with fail
                    go_roundw
                    case rel => exact ⟨k + 1, by omega, by go_num, hst2, X8, iY8⟩
                    case measure => simp [intOf]; omega
                  | true =>
                    go_wp2_with fail
                    go_region_held3 (fun w' => w'.cell? ⟨w.heap.size, 0, none⟩ = some (.slice ag os.length cg) ∧ w'.cell? ⟨w.heap.size + 1, 0, none⟩ = some (.slice ah hs.length ch)) (exact ⟨by assumption, by assumption⟩) (first
                      | (go_at_call 130; refine (KE.out _ (H0.below HB7.out (Nat.le_refl _)).drew (H1.below HB7.out (Nat.le_refl _)).drew ((HLL.out.takeI n1).below HB7.out (Nat.le_refl _)).drew iD7.drew).mono ?_; rintro e w8 ⟨rfl, b8⟩; have X8 := X7.drew.next b8; have q5 := X8.c1; have q6 := X8.c2))
                    have iY8 := iY7.drew.below b8 (Nat.le_refl _)
                    have X8' := X7.drew.next b8
                    have q7 := X8'.c1
                    have q8 := X8'.c2
                    have CI2 := Lib.hid (CI.out w8 (by have := HDL.out; have := HDE.out; omega) HDX.out (iD7.drew.below b8 (Nat.le_refl _)) (HBW.out.trans (X8'.bel.mono hw0)))
                    clear CI KE b8 q1 q2
                    go_wp2_with fail
                    refine CI2.out.mono ?_; rintro e w9 ⟨r, ar, cr, rfl, hr, hr5, ir, b9⟩
                    have X9 := X8'.next b9
                    have iY9 := iY8.below b9 (Nat.le_refl _)
                    clear CI2 X8' b9 iY8 q7 q8
                    cases V with
                    | none =>
                      have hst2 := Lib.hid (show (Lb.drop (k + 1)).findSome? F = R by simpa using hst)
                      clear hst hr
                      go_wp2_with fail
                      go_roundw
                      case rel => exact ⟨k + 1, by omega, by go_num, hst2, X9, iY9⟩
                      case measure => simp [intOf]; omega
                    | some y =>
                      obtain rfl : R = some y := by simpa using hst.symm
                      obtain rfl : y = r := hr
                      clear hst
                      go_wp2_with fail
                      go_ret2
                      exact ⟨y, _, _, rfl, rfl, hr5, ir, X9.bel⟩
      · obtain rfl : k = Lb.length := by omega
        have e := HR.out
        rw [List.drop_length] at e
        have eR : R = none := e.symm
        subst eR
        have HE := Lib.hid (X.next (below_allocM' wr (.cells #[] 3)))
        clear e HR
        go_wp2_with fail
        go_ret2
        exact ⟨[], _, _, rfl, rfl, by simp, Ints.nil _ _ _ (by omega), HE.out.bel⟩
end Go.Proofs.Ytokpgbpdmfibjaa
