/-
The reference's search for solutions: l25Find walked. Conditions: 2 to 4 coefficients from -9 to 9, numbers up to 12, at most 10000 solutions.
-/
import Derived.Test.YtokpgbpdmfibjaaSlv6
import Derived.Test.YtokpgbpdmfibjaaApp
import Derived.Outline
namespace Go.Proofs.Ytokpgbpdmfibjaa
open Go.RowKit Go.ChangeShapes
set_option linter.unusedVariables false

theorem lin_end {c x : List Int} (h : x.length = c.length) : lin c (x.take c.length) = lin c x := by
  rw [List.take_of_length_le (by omega)]
set_option maxRecDepth 20000 in
set_option maxHeartbeats 6400000 in
theorem find_any (w0 : World) (a0 : Option Addr) (c0 : Nat) (c : List Int) (n : Nat) (a1 : Option Addr) (c1 : Nat) (cs : List Int) (hI : Ints w0 a0 c0 c) (hJ : Ints w0 a1 c1 cs) (hn : n ≤ 12) (hc4 : c.length ≤ 4) (hcb : ∀ x ∈ c, -9 ≤ x ∧ x ≤ 9) (hcs : cs = [] ∨ cs.length = n) :
    ∀ (d most B : Nat) (x : List Int) (ax : Option Addr) (cx : Nat) (r : List (List Int)) (w : World), x.length + d = c.length → (solL c n (okM cs) d x).take most = r → most ≤ 10000 → (∀ y ∈ x, 1 ≤ y ∧ y ≤ (n : Int)) → OwnI w B ax cx x → B ≤ w.heap.size → Below w0.heap.size w0 w → 1 ≤ most →
    Calls Try.prog 113 #[.slice a0 c.length c0, .int .i64 (n : Int), .slice a1 cs.length c1, .slice ax x.length cx, .int .i64 (most : Int)] w fun e w' =>
      ∃ a' c' vs, e = .returned (.slice a' r.length c') ∧ OwnR w' B a' c' r.length (fun i => r.getD i []) vs ∧ Below w.heap.size w w' := by
  have HC := Lib.hid hI.2.2.2.2
  have HJ := Lib.hid hJ.2.2.2.2
  have HCB := Lib.hid hcb
  have HCS := Lib.hid hcs
  clear hI hJ hcb hcs
  intro d
  induction d with
  | zero =>
    intro most B x ax cx r w hid hr hm hx hox hB hbel hm1
    have hlen : ((x.length : Int) == c.length) = true := by simp; omega
    have HL : Hid (x.length = c.length) := Lib.hid (by omega)
    have HX := Lib.hid hx
    have HR : Hid ((lin c x = 0 → r = [x]) ∧ (lin c x ≠ 0 → r = [])) := Lib.hid ⟨fun h => by rw [← hr]; simp only [solL, if_pos h]; rw [List.take_of_length_le (by simp; omega)], fun h => by rw [← hr]; simp [solL, h]⟩
    have HXC := Lib.hid hox.ints.2.2.2.2
    have HO := Lib.hid hox
    have HLB : Hid (∀ k, k ≤ x.length → -432 ≤ lin c (x.take k) ∧ lin c (x.take k) ≤ 432) := Lib.hid (fun k hk => by
      have := lin_bd c (x.take k) HCB.out (fun y hy => by have := hx y (List.mem_of_mem_take hy); omega)
      rw [List.length_take] at this
      omega)
    clear hid hr hx hox
    go_enter Try.func113, Try.ntmps113
    go_wp2_with fail
    go_loopw [11, 12] (fun vs vi wr => ∃ k : Nat, k ≤ c.length ∧ vi = .int .i64 (k : Int) ∧ vs = .int .i64 (lin c (x.take k)) ∧ Below w.heap.size w wr) (fun _ vi _ => (c.length - intOf vi).toNat)
    case atStart => exact ⟨0, by omega, rfl, by simp [lin_nil], Below.refl _ _⟩
    case round =>
      obtain ⟨k, hk, rfl, rfl, hb⟩ := hrel
      by_cases hlt : k < c.length
      · have hkx : k < x.length := by have := HL.out; omega
        rcases HC.out with hcs | ⟨b, off, rfl, hbB, hcell⟩
        · subst hcs; simp at hlt
        rcases HXC.out with hcs | ⟨b', off', rfl, hbB', hcell'⟩
        · subst hcs; simp at hkx
        have d1 := (hb.cell (p := ⟨b, off + k, none⟩) (by show b < w.heap.size; have := hbel.size; omega)).trans ((hbel.cell (p := ⟨b, off + k, none⟩) hbB).trans (hcell k hlt))
        have d2 := (hb.cell (p := ⟨b', off' + k, none⟩) hbB').trans (hcell' k hkx)
        have hst := lin_take hlt hkx
        have hbd := HLB.out k (by omega)
        have hci := HCB.out _ (List.getElem_mem hlt)
        have hxi := HX.out _ (List.getElem_mem hkx)
        obtain ⟨s, hs⟩ : ∃ s, s = lin c (x.take k) := ⟨_, rfl⟩
        obtain ⟨p, hp⟩ : ∃ s, s = c[k] := ⟨_, rfl⟩
        obtain ⟨q, hq⟩ : ∃ s, s = x[k] := ⟨_, rfl⟩
        rw [← hp] at d1 hst hci
        rw [← hq] at d2 hst hxi
        rw [← hs] at hst hbd ⊢
        have hprod : -108 ≤ p * q ∧ p * q ≤ 108 := by
          have h1 : p * q ≤ 9 * q := Int.mul_le_mul_of_nonneg_right hci.2 (by omega)
          have h2 : -9 * q ≤ p * q := Int.mul_le_mul_of_nonneg_right hci.1 (by omega)
          omega
        have hwp : IntKind.i64.wrap (p * q) = p * q := by rw [IntKind.wrap_i64]; omega
        have hws : IntKind.i64.wrap (s + p * q) = s + p * q := by rw [IntKind.wrap_i64]; omega
        have hkl : (k : Int) < c.length := by omega
        have hkl2 : (k : Int) < x.length := by omega
        have HST := Lib.hid hst
        clear hcell hcell' hp hq hs hst hci hxi
        go_wp2_with fail
        go_quiet (fail)
        go_wp2_with fail
        go_roundw
        case rel => exact ⟨k + 1, by omega, by go_num, by rw [HST.out], below_drewN hb _⟩
        case measure => simp [intOf]; omega
      · obtain rfl : k = c.length := by omega
        rw [lin_end HL.out]
        obtain ⟨r1, r2⟩ := HR.out
        by_cases h0 : lin c x = 0
        · have e := r1 h0
          subst e
          rw [h0]
          have hfin := OwnR.made1 (w := wr) (B := B) (g := wr.heap.size) rfl (by have := hb.size; omega) (HO.out.below hb (Nat.le_refl _))
          have HF := Lib.hid hfin
          clear r1 r2 h0 hfin HR HC HXC
          go_wp2_with fail
          go_ret
          exact ⟨_, _, _, rfl, HF.out, hb.alloc hb.size _⟩
        · have e := r2 h0
          subst e
          obtain ⟨s, hs⟩ : ∃ s, s = lin c x := ⟨_, rfl⟩
          rw [← hs] at h0 ⊢
          have hs0 : (s == 0) = false := by simpa using h0
          have HF := Lib.hid (OwnR.made (w := wr) (B := B) (g := wr.heap.size) rfl (by have := hb.size; omega) (fun i => ([] : List (List Int)).getD i []))
          clear r1 r2 h0 HR HC HXC hs
          go_wp2_with fail
          go_ret
          exact ⟨_, _, _, rfl, HF.out, hb.alloc hb.size _⟩
  | succ d ih =>
    intro most B x ax cx r w hid hr hm hx hox hB hbel hm1
    have IH := Lib.hid ih
    have hlen : ((x.length : Int) == c.length) = false := by simp; omega
    have hxl : x.length ≤ 4 := by omega
    have HID := Lib.hid hid
    have HX := Lib.hid hx
    have HR : Hid (([] ++ solF c n (okM cs) d x 1).take most = r) := Lib.hid (by rw [List.nil_append, solF_one]; exact hr)
    have HXC := Lib.hid hox.ints.2.2.2.2
    have HO := Lib.hid hox
    have HM := Lib.hid (OwnR.made (w := w) (B := w.heap.size) (g := w.heap.size) rfl (Nat.le_refl _) (fun i => ([] : List (List Int)).getD i []))
    clear ih hid hr hx hox
    go_enter Try.func113, Try.ntmps113
    go_wp2_with fail
    go_loopw [13, 14] (fun vo vy wr => ∃ (y : Nat) (F : List (List Int)) (ao : Option Addr) (co : Nat) (vs : List Value), 1 ≤ y ∧ y ≤ n + 1 ∧ vy = .int .i64 (y : Int) ∧ vo = .slice ao F.length co ∧ F.length ≤ most ∧ OwnR wr w.heap.size ao co F.length (fun i => F.getD i []) vs ∧ Hid ((F ++ solF c n (okM cs) d x y).take most = r) ∧ Below w.heap.size w wr) (fun _ vy _ => (n + 1 - intOf vy).toNat)
    case atStart => exact ⟨1, [], _, _, [], by omega, by omega, rfl, rfl, by simp, HM.out, HR, (Below.refl _ _).alloc (Nat.le_refl _) _⟩
    case round =>
      clear HM HR
      obtain ⟨y, F, ao, co, vs, hy1, hy2, rfl, rfl, hFm, hoo, HR, hb⟩ := hrel
      by_cases hlt : y ≤ n
      · by_cases hmo : F.length < most
        · obtain ⟨m', hm'⟩ : ∃ m', m' = most - F.length := ⟨_, rfl⟩
          have hmF : (m' : Int) = (most : Int) - F.length := by omega
          have hm'1 : 1 ≤ m' := by omega
          have hm'2 : m' ≤ 10000 := by omega
          have hcase : (okM cs x (y : Int) = true) ∨ (okM cs x (y : Int) = false) := by cases okM cs x (y : Int) <;> simp
          have hguard : (okM cs x (y : Int) = true ∧ cs = []) ∨ (okM cs x (y : Int) = true ∧ cs.length = n ∧ x = []) ∨ (cs.length = n ∧ 0 < x.length ∧ (okM cs x (y : Int) = (cs.getD (y - 1) 0 == cs.getD (x.headD 0 - 1).toNat 0))) := by
            rcases HCS.out with h | h
            · left; subst h; exact ⟨by simp [okM], rfl⟩
            · right
              by_cases hx0 : x = []
              · left; subst hx0; exact ⟨by simp [okM], h, rfl⟩
              · right
                refine ⟨h, List.length_pos_iff.2 hx0, ?_⟩
                unfold okM
                have : x.isEmpty = false := by simpa using hx0
                rw [this, Bool.false_or, show ((y : Int) - 1).toNat = y - 1 by omega]
          rcases hguard with ⟨hok, hcl⟩ | ⟨hok, hcl, hx0⟩ | ⟨hcl, hx0, hok'⟩
          · have hd1 : decide ((0 : Int) < (cs.length : Int)) = false := by simp [hcl]
            have hd2 : decide (0 < cs.length) = false := by simp [hcl]
            clear hcase hcl
            go_wp2_with fail
            refine wp_region_quiet_lit (by kernel_rfl) (by kernel_rfl) ?_
            repeat (any_goals (first | go_big_quiet_step (fail) | quiet_step (fail)))
            refine wpQuiet_nil ?_
            intro _ hw'
            obtain ⟨nq, hw''⟩ := hw'
            subst hw''
            obtain ⟨W, hW⟩ : ∃ W, W = wr.drewN nq := ⟨_, rfl⟩
            have hbW : Below w.heap.size w W := by rw [hW]; exact below_drewN hb nq
            have ooW : OwnR W w.heap.size ao co F.length (fun i => F.getD i []) vs := by rw [hW]; exact hoo.below (below_drewN (Below.refl wr.heap.size wr) nq) (Nat.le_refl _)
            rw [← hW]
            have oxW := HO.out.below hbW (Nat.le_refl _)
            have h1 := oxW.ints.alloc (.cells #[] 3)
            have hm := OwnI.made W W.heap.size (Nat.le_refl _)
            have hb1 := (Below.refl W.heap.size W).alloc (Nat.le_refl _) (.cells #[] 3)
            have hl0 : ([] : List Int).length ≤ 2000000 := by simp
            have hl1 : x.length ≤ 2000000 := by omega
            have hsz : W.heap.size ≤ (W.alloc (.cells #[] 3)).heap.size := by simp
            clear hW hoo hb
            go_wp2_with (at_builtin; refine wpList_appAll rfl (.tmp 81) (.tmp 82) rfl W.heap.size _ _ [] _ _ x rfl rfl hm h1 hl0 hl1 hsz ?_)
            intro a2 c2 w1 o1 hg2
            have hb3 := hg2 _ hb1
            have hwy : (Lit.int .i64 (y : Int)).wf = true := wf_of (by omega) (by omega)
            clear hb1 hg2 hm h1 hl0
            go_wp2_with (at_builtin; refine wpList_app rfl (.tmp 83) (.tmp 85) rfl W.heap.size _ _ _ _ rfl rfl o1 hwy hl1 hb3.size ?_)
            intro a3 c3 w2 o2 hg4
            have hb5 := hg4 _ hb3
            have hlen2 : (x ++ [(y : Int)]).length = x.length + 1 := by simp
            have hdl : (x ++ [(y : Int)]).length + d = c.length := by have := HID.out; simp only [List.length_append, List.length_singleton]; omega
            have hdx : ∀ z ∈ x ++ [(y : Int)], 1 ≤ z ∧ z ≤ (n : Int) := fun z hz => by
              rcases List.mem_append.1 hz with h | h
              · exact HX.out z h
              · simp at h; subst h; omega
            have hst : ((F ++ (solL c n (okM cs) d (x ++ [(y : Int)])).take m') ++ solF c n (okM cs) d x (y + 1)).take most = r := by
              rw [hm', take_mid _ _ _ _ hFm, ← HR.out, solF_step hlt, if_pos hok]
            obtain ⟨D, hD⟩ : ∃ D, D = x ++ [(y : Int)] := ⟨_, rfl⟩
            rw [← hD] at o2 hlen2 hdl hdx hst
            obtain ⟨G, hG⟩ : ∃ G, G = (solL c n (okM cs) d D).take m' := ⟨_, rfl⟩
            rw [← hG] at hst
            have hGl : G.length ≤ m' := by rw [hG, List.length_take]; omega
            have hbw2 := nx hbW hb5
            have hmm : most = most := rfl
            have CI := Lib.hid (IH.out m' W.heap.size D a3 c3 G w2 hdl hG.symm hm'2 hdx o2 hb5.size (hbel.trans (hbw2.mono hbel.size)) hm'1)
            rw [hmF, hlen2] at CI
            have HST := Lib.hid hst
            have HGL : Hid ((F ++ G).length ≤ most) := Lib.hid (by rw [List.length_append]; omega)
            have hFG : F.length + G.length ≤ 1000000 := by omega
            have ooW2 := ooW.below hb5 (Nat.le_refl _)
            have HO1 := Lib.hid (fun b hb => (ooW.outLt b hb).2)
            have HO2 := Lib.hid (fun i v b hv hb => (ooW.rowLt i v b hv hb).2)
            have hwW : w.heap.size ≤ W.heap.size := hbW.size
            clear hg4 hb3 o1 o2 hD hlen2 hwy hl1 hG hst hdl hdx hGl hm' hmm ooW
            go_wp2_with fail
            refine CI.out.mono ?_; rintro e w3 ⟨a4, c4, vs4, rfl, o4, b4⟩
            have ooW3 := ooW2.below b4 (Nat.le_refl _)
            have hbw3 := nx hbw2 b4
            have hw3 : w.heap.size ≤ w3.heap.size := hbw3.size
            clear CI ooW2 b4
            obtain ⟨H, hH⟩ : ∃ H, H = F ++ G := ⟨_, rfl⟩
            rw [← hH] at HST HGL
            have HH := Lib.hid hH
            clear hH
            go_wp2_with (at_builtin; refine wpList_appRR rfl (.tmp 77) (.tmp 91) rfl w.heap.size W.heap.size ao co F vs a4 c4 G vs4 rfl rfl ooW3 o4 hwW HO1.out HO2.out hFG hw3 H HH.out.symm ?_)
            intro a5 c5 w4 o5 hg5
            have hb6 := hg5 _ hbw3
            have hFGm := HGL.out
            clear hg5 o4 ooW3 HO1 HO2 hFG HH
            go_wp2_with fail
            go_roundw
            case rel => exact ⟨y + 1, H, a5, c5, _, by omega, by omega, by go_num, rfl, hFGm, o5, HST, hb6⟩
            case measure => simp [intOf]; omega
          · have hd1 : decide ((0 : Int) < (x.length : Int)) = false := by simp [hx0]
            have hd2 : decide (0 < x.length) = false := by simp [hx0]
            have hcl1 : 0 < cs.length := by omega
            have hcl2 : (0 : Int) < cs.length := by omega
            clear hcase hx0 hcl
            go_wp2_with fail
            refine wp_region_quiet_lit (by kernel_rfl) (by kernel_rfl) ?_
            repeat (any_goals (first | go_big_quiet_step (fail) | quiet_step (fail)))
            refine wpQuiet_nil ?_
            intro _ hw'
            obtain ⟨nq, hw''⟩ := hw'
            subst hw''
            obtain ⟨W, hW⟩ : ∃ W, W = wr.drewN nq := ⟨_, rfl⟩
            have hbW : Below w.heap.size w W := by rw [hW]; exact below_drewN hb nq
            have ooW : OwnR W w.heap.size ao co F.length (fun i => F.getD i []) vs := by rw [hW]; exact hoo.below (below_drewN (Below.refl wr.heap.size wr) nq) (Nat.le_refl _)
            rw [← hW]
            have oxW := HO.out.below hbW (Nat.le_refl _)
            have h1 := oxW.ints.alloc (.cells #[] 3)
            have hm := OwnI.made W W.heap.size (Nat.le_refl _)
            have hb1 := (Below.refl W.heap.size W).alloc (Nat.le_refl _) (.cells #[] 3)
            have hl0 : ([] : List Int).length ≤ 2000000 := by simp
            have hl1 : x.length ≤ 2000000 := by omega
            have hsz : W.heap.size ≤ (W.alloc (.cells #[] 3)).heap.size := by simp
            clear hW hoo hb
            go_wp2_with (at_builtin; refine wpList_appAll rfl (.tmp 81) (.tmp 82) rfl W.heap.size _ _ [] _ _ x rfl rfl hm h1 hl0 hl1 hsz ?_)
            intro a2 c2 w1 o1 hg2
            have hb3 := hg2 _ hb1
            have hwy : (Lit.int .i64 (y : Int)).wf = true := wf_of (by omega) (by omega)
            clear hb1 hg2 hm h1 hl0
            go_wp2_with (at_builtin; refine wpList_app rfl (.tmp 83) (.tmp 85) rfl W.heap.size _ _ _ _ rfl rfl o1 hwy hl1 hb3.size ?_)
            intro a3 c3 w2 o2 hg4
            have hb5 := hg4 _ hb3
            have hlen2 : (x ++ [(y : Int)]).length = x.length + 1 := by simp
            have hdl : (x ++ [(y : Int)]).length + d = c.length := by have := HID.out; simp only [List.length_append, List.length_singleton]; omega
            have hdx : ∀ z ∈ x ++ [(y : Int)], 1 ≤ z ∧ z ≤ (n : Int) := fun z hz => by
              rcases List.mem_append.1 hz with h | h
              · exact HX.out z h
              · simp at h; subst h; omega
            have hst : ((F ++ (solL c n (okM cs) d (x ++ [(y : Int)])).take m') ++ solF c n (okM cs) d x (y + 1)).take most = r := by
              rw [hm', take_mid _ _ _ _ hFm, ← HR.out, solF_step hlt, if_pos hok]
            obtain ⟨D, hD⟩ : ∃ D, D = x ++ [(y : Int)] := ⟨_, rfl⟩
            rw [← hD] at o2 hlen2 hdl hdx hst
            obtain ⟨G, hG⟩ : ∃ G, G = (solL c n (okM cs) d D).take m' := ⟨_, rfl⟩
            rw [← hG] at hst
            have hGl : G.length ≤ m' := by rw [hG, List.length_take]; omega
            have hbw2 := nx hbW hb5
            have hmm : most = most := rfl
            have CI := Lib.hid (IH.out m' W.heap.size D a3 c3 G w2 hdl hG.symm hm'2 hdx o2 hb5.size (hbel.trans (hbw2.mono hbel.size)) hm'1)
            rw [hmF, hlen2] at CI
            have HST := Lib.hid hst
            have HGL : Hid ((F ++ G).length ≤ most) := Lib.hid (by rw [List.length_append]; omega)
            have hFG : F.length + G.length ≤ 1000000 := by omega
            have ooW2 := ooW.below hb5 (Nat.le_refl _)
            have HO1 := Lib.hid (fun b hb => (ooW.outLt b hb).2)
            have HO2 := Lib.hid (fun i v b hv hb => (ooW.rowLt i v b hv hb).2)
            have hwW : w.heap.size ≤ W.heap.size := hbW.size
            clear hg4 hb3 o1 o2 hD hlen2 hwy hl1 hG hst hdl hdx hGl hm' hmm ooW
            go_wp2_with fail
            refine CI.out.mono ?_; rintro e w3 ⟨a4, c4, vs4, rfl, o4, b4⟩
            have ooW3 := ooW2.below b4 (Nat.le_refl _)
            have hbw3 := nx hbw2 b4
            have hw3 : w.heap.size ≤ w3.heap.size := hbw3.size
            clear CI ooW2 b4
            obtain ⟨H, hH⟩ : ∃ H, H = F ++ G := ⟨_, rfl⟩
            rw [← hH] at HST HGL
            have HH := Lib.hid hH
            clear hH
            go_wp2_with (at_builtin; refine wpList_appRR rfl (.tmp 77) (.tmp 91) rfl w.heap.size W.heap.size ao co F vs a4 c4 G vs4 rfl rfl ooW3 o4 hwW HO1.out HO2.out hFG hw3 H HH.out.symm ?_)
            intro a5 c5 w4 o5 hg5
            have hb6 := hg5 _ hbw3
            have hFGm := HGL.out
            clear hg5 o4 ooW3 HO1 HO2 hFG HH
            go_wp2_with fail
            go_roundw
            case rel => exact ⟨y + 1, H, a5, c5, _, by omega, by omega, by go_num, rfl, hFGm, o5, HST, hb6⟩
            case measure => simp [intOf]; omega
          · have h0x : x.headD 0 = x[0] := by
              cases x with
              | nil => simp at hx0
              | cons a t => rfl
            have hb0 := HX.out _ (List.getElem_mem hx0)
            rw [h0x] at hok'
            rcases HJ.out with hcs | ⟨b, off, rfl, hbB, hcell⟩
            · subst hcs; simp at hcl; omega
            rcases HXC.out with hcs | ⟨b', off', rfl, hbB', hcell'⟩
            · subst hcs; simp at hx0
            have d0 := (hb.cell (p := ⟨b', off' + 0, none⟩) hbB').trans (hcell' 0 hx0)
            rw [Nat.add_zero] at d0
            obtain ⟨u, hu⟩ : ∃ u, u = x[0] := ⟨_, rfl⟩
            rw [← hu] at d0 hok' hb0
            obtain ⟨U, hU⟩ : ∃ U : Nat, U = (u - 1).toNat := ⟨_, rfl⟩
            obtain ⟨V, hV⟩ : ∃ V : Nat, V = y - 1 := ⟨_, rfl⟩
            rw [← hU, ← hV] at hok'
            have hUl : U < cs.length := by omega
            have hVl : V < cs.length := by omega
            have hbw : ∀ i (hi : i < cs.length), wr.cell? ⟨b, off + i, none⟩ = some (.int .i64 (cs.getD i 0)) := fun i hi => by
              have e : cs.getD i 0 = cs[i] := by simp [List.getD, hi]
              rw [e]
              exact (hb.cell (p := ⟨b, off + i, none⟩) (by show b < w.heap.size; have := hbel.size; omega)).trans ((hbel.cell (p := ⟨b, off + i, none⟩) hbB).trans (hcell i hi))
            have e1 := hbw V hVl
            have e2 := hbw U hUl
            obtain ⟨P, hP⟩ : ∃ P, P = cs.getD V 0 := ⟨_, rfl⟩
            obtain ⟨Q, hQ⟩ : ∃ P, P = cs.getD U 0 := ⟨_, rfl⟩
            rw [← hP] at e1 hok'
            rw [← hQ] at e2 hok'
            have huU : u - 1 = (U : Int) := by omega
            have hyV : (y : Int) - 1 = (V : Int) := by omega
            have hwu : IntKind.i64.wrap (u - 1) = (U : Int) := by rw [huU, IntKind.wrap_i64]; omega
            have hwv : IntKind.i64.wrap ((y : Int) - 1) = (V : Int) := by rw [hyV, IntKind.wrap_i64]; omega
            have g1 : 0 < cs.length := by omega
            have g2 : (0 : Int) < cs.length := by omega
            have g3 : (0 : Int) < x.length := by omega
            have hV1 : (0 : Int) ≤ (V : Int) := by omega
            have hV2 : (V : Int) < cs.length := by omega
            have hU1 : (0 : Int) ≤ (U : Int) := by omega
            have hU2 : (U : Int) < cs.length := by omega
            clear hcase h0x hcell hcell' hu hU hV hP hQ hbw huU hyV hcl
            by_cases hpq : P = Q
            · have hok : okM cs x (y : Int) = true := by rw [hok']; simpa using hpq
              have hne : (P != Q) = false := by simpa using hpq
              clear hok' hpq
              go_wp2_with fail
              refine wp_region_quiet_lit (by kernel_rfl) (by kernel_rfl) ?_
              repeat (any_goals (first | go_big_quiet_step (fail) | quiet_step (fail)))
              refine wpQuiet_nil ?_
              intro _ hw'
              obtain ⟨nq, hw''⟩ := hw'
              subst hw''
              obtain ⟨W, hW⟩ : ∃ W, W = wr.drewN nq := ⟨_, rfl⟩
              have hbW : Below w.heap.size w W := by rw [hW]; exact below_drewN hb nq
              have ooW : OwnR W w.heap.size ao co F.length (fun i => F.getD i []) vs := by rw [hW]; exact hoo.below (below_drewN (Below.refl wr.heap.size wr) nq) (Nat.le_refl _)
              rw [← hW]
              have oxW := HO.out.below hbW (Nat.le_refl _)
              have h1 := oxW.ints.alloc (.cells #[] 3)
              have hm := OwnI.made W W.heap.size (Nat.le_refl _)
              have hb1 := (Below.refl W.heap.size W).alloc (Nat.le_refl _) (.cells #[] 3)
              have hl0 : ([] : List Int).length ≤ 2000000 := by simp
              have hl1 : x.length ≤ 2000000 := by omega
              have hsz : W.heap.size ≤ (W.alloc (.cells #[] 3)).heap.size := by simp
              clear hW hoo hb
              go_wp2_with (at_builtin; refine wpList_appAll rfl (.tmp 81) (.tmp 82) rfl W.heap.size _ _ [] _ _ x rfl rfl hm h1 hl0 hl1 hsz ?_)
              intro a2 c2 w1 o1 hg2
              have hb3 := hg2 _ hb1
              have hwy : (Lit.int .i64 (y : Int)).wf = true := wf_of (by omega) (by omega)
              clear hb1 hg2 hm h1 hl0
              go_wp2_with (at_builtin; refine wpList_app rfl (.tmp 83) (.tmp 85) rfl W.heap.size _ _ _ _ rfl rfl o1 hwy hl1 hb3.size ?_)
              intro a3 c3 w2 o2 hg4
              have hb5 := hg4 _ hb3
              have hlen2 : (x ++ [(y : Int)]).length = x.length + 1 := by simp
              have hdl : (x ++ [(y : Int)]).length + d = c.length := by have := HID.out; simp only [List.length_append, List.length_singleton]; omega
              have hdx : ∀ z ∈ x ++ [(y : Int)], 1 ≤ z ∧ z ≤ (n : Int) := fun z hz => by
                rcases List.mem_append.1 hz with h | h
                · exact HX.out z h
                · simp at h; subst h; omega
              have hst : ((F ++ (solL c n (okM cs) d (x ++ [(y : Int)])).take m') ++ solF c n (okM cs) d x (y + 1)).take most = r := by
                rw [hm', take_mid _ _ _ _ hFm, ← HR.out, solF_step hlt, if_pos hok]
              obtain ⟨D, hD⟩ : ∃ D, D = x ++ [(y : Int)] := ⟨_, rfl⟩
              rw [← hD] at o2 hlen2 hdl hdx hst
              obtain ⟨G, hG⟩ : ∃ G, G = (solL c n (okM cs) d D).take m' := ⟨_, rfl⟩
              rw [← hG] at hst
              have hGl : G.length ≤ m' := by rw [hG, List.length_take]; omega
              have hbw2 := nx hbW hb5
              have hmm : most = most := rfl
              have CI := Lib.hid (IH.out m' W.heap.size D a3 c3 G w2 hdl hG.symm hm'2 hdx o2 hb5.size (hbel.trans (hbw2.mono hbel.size)) hm'1)
              rw [hmF, hlen2] at CI
              have HST := Lib.hid hst
              have HGL : Hid ((F ++ G).length ≤ most) := Lib.hid (by rw [List.length_append]; omega)
              have hFG : F.length + G.length ≤ 1000000 := by omega
              have ooW2 := ooW.below hb5 (Nat.le_refl _)
              have HO1 := Lib.hid (fun b hb => (ooW.outLt b hb).2)
              have HO2 := Lib.hid (fun i v b hv hb => (ooW.rowLt i v b hv hb).2)
              have hwW : w.heap.size ≤ W.heap.size := hbW.size
              clear hg4 hb3 o1 o2 hD hlen2 hwy hl1 hG hst hdl hdx hGl hm' hmm ooW
              go_wp2_with fail
              refine CI.out.mono ?_; rintro e w3 ⟨a4, c4, vs4, rfl, o4, b4⟩
              have ooW3 := ooW2.below b4 (Nat.le_refl _)
              have hbw3 := nx hbw2 b4
              have hw3 : w.heap.size ≤ w3.heap.size := hbw3.size
              clear CI ooW2 b4
              obtain ⟨H, hH⟩ : ∃ H, H = F ++ G := ⟨_, rfl⟩
              rw [← hH] at HST HGL
              have HH := Lib.hid hH
              clear hH
              go_wp2_with (at_builtin; refine wpList_appRR rfl (.tmp 77) (.tmp 91) rfl w.heap.size W.heap.size ao co F vs a4 c4 G vs4 rfl rfl ooW3 o4 hwW HO1.out HO2.out hFG hw3 H HH.out.symm ?_)
              intro a5 c5 w4 o5 hg5
              have hb6 := hg5 _ hbw3
              have hFGm := HGL.out
              clear hg5 o4 ooW3 HO1 HO2 hFG HH
              go_wp2_with fail
              go_roundw
              case rel => exact ⟨y + 1, H, a5, c5, _, by omega, by omega, by go_num, rfl, hFGm, o5, HST, hb6⟩
              case measure => simp [intOf]; omega
            · have hok : okM cs x (y : Int) = false := by rw [hok']; simpa using hpq
              have hne : (P != Q) = true := by simpa using hpq
              have hst : (F ++ solF c n (okM cs) d x (y + 1)).take most = r := by
                rw [← HR.out, solF_step hlt, hok]; simp
              have HST := Lib.hid hst
              clear hok' hpq hok hst HR
              go_wp2_with fail
              refine wp_region_quiet_lit (by kernel_rfl) (by kernel_rfl) ?_
              repeat (any_goals (first | go_big_quiet_step (fail) | quiet_step (fail)))
              refine wpQuiet_nil ?_
              intro _ hw'
              obtain ⟨nq, hw''⟩ := hw'
              subst hw''
              go_wp2_with fail
              go_roundw
              case rel => exact ⟨y + 1, F, ao, co, vs, by omega, by omega, by go_num, rfl, hFm, hoo.below (below_drewN (Below.refl wr.heap.size wr) nq) (Nat.le_refl _), HST, below_drewN hb nq⟩
              case measure => simp [intOf]; omega
        · have e : r = F := by rw [← HR.out, List.take_append_of_le_length (by omega), List.take_of_length_le hFm]
          subst e
          clear HR
          go_wp2_with fail
          go_ret
          exact ⟨_, _, _, rfl, hoo.mono hB, hb⟩
      · have e : r = F := by rw [← HR.out, solF_end (by omega), List.append_nil, List.take_of_length_le hFm]
        subst e
        clear HR
        go_wp2_with fail
        go_ret
        exact ⟨_, _, _, rfl, hoo.mono hB, hb⟩
end Go.Proofs.Ytokpgbpdmfibjaa
