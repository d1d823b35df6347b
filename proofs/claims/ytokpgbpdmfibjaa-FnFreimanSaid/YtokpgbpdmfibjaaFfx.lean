/-
Several texts in one: Contract of the program's FindFreimanIso. Conditions: at most 2000000 orders. Contract of the reference's FindFreimanIso. Conditions: at most 2000000 orders.
-/
import Derived.Test.YtokpgbpdmfibjaaFfi
import Derived.Test.YtokpgbpdmfibjaaFfs
import Derived.Deep.RegionHeld3
namespace Go.Proofs.Ytokpgbpdmfibjaa
open Go.RowKit Go.ChangeShapes
set_option linter.unusedVariables false
set_option linter.unusedSimpArgs false

theorem below_allocJ (w : World) (o : Obj) : Below w.heap.size w (w.alloc o) := (Below.refl w.heap.size w).alloc (Nat.le_refl _) o
set_option maxRecDepth 20000 in
set_option maxHeartbeats 6400000 in
theorem ff_impl (ag : Option Addr) (cg : Nat) (os : List Int) (ah : Option Addr) (ch : Nat) (hs : List Int) (a b : Int) (w : World) (h0 : Ints w ag cg os) (h1 : Ints w ah ch hs) (hol : os.length ≤ 2000000) (hhl : hs.length ≤ 2000000) :
    Calls Try.prog 59 #[.agg #[.slice ag os.length cg], .agg #[.slice ah hs.length ch], .int .i64 a, .int .i64 b] w fun e w' => ∃ (r : List Int) (ar : Option Addr) (cr : Nat), e = .returned (.tuple #[.slice ar r.length cr, .bool (ffO os hs a b).isSome]) ∧ (ffO os hs a b).getD [] = r ∧ r.length ≤ 5 ∧ Ints w' ar cr r ∧ Below w.heap.size w w' := by
  have X0 := KpW.start w ag cg os ah ch hs
  have q1 := X0.c1
  have CA := Lib.hid (fun w h => isSet_impl ag cg os a w h hol)
  have CB := Lib.hid (fun w h => isSet_impl ah ch hs b w h hhl)
  have HFB : Hid (ffB os hs a b = (setB os a && (setB hs b && (decide (popc a.toNat = popc b.toNat) && inB (popc a.toNat : Int) 1 5)))) := Lib.hid rfl
  have HNO : Hid (ffB os hs a b = false → (ffO os hs a b).isSome = false ∧ (ffO os hs a b).getD [] = []) := Lib.hid (fun h => by unfold ffO; rw [h]; simp)
  have HYES : Hid (ffB os hs a b = true → ffO os hs a b = fiI os hs (mems a.toNat) (mems b.toNat) (popc a.toNat) []) := Lib.hid (fun h => by unfold ffO; rw [h]; simp)
  obtain ⟨O, hO⟩ : ∃ o, o = ffO os hs a b := ⟨_, rfl⟩
  rw [← hO] at HNO HYES ⊢
  clear hO
  cases hsa : setB os a with
  | false =>
    obtain ⟨e1, e2⟩ := HNO.out (by rw [HFB.out, hsa]; rfl)
    rw [e1, e2]
    rw [hsa] at CA
    clear hsa e1 e2 HFB HNO HYES
    go_enter Try.func59, Try.ntmps59
    go_wp2_with fail
    refine (CA.out _ (h0.below X0.bel (Nat.le_refl _))).mono ?_; rintro e w1 ⟨rfl, b1⟩
    have X1 := X0.next b1
    have HX := Lib.hid (X1.next (below_allocJ w1 (.cells #[] 3)))
    go_wp2_with fail
    go_ret2
    exact ⟨[], _, _, rfl, rfl, by simp, Ints.nil _ _ _ (by omega), HX.out.bel⟩
  | true =>
    rw [hsa] at CA
    cases hsb : setB hs b with
    | false =>
      obtain ⟨e1, e2⟩ := HNO.out (by rw [HFB.out, hsb]; simp)
      rw [e1, e2]
      rw [hsb] at CB
      clear hsa hsb e1 e2 HFB HNO HYES
      go_enter Try.func59, Try.ntmps59
      go_wp2_with fail
      refine (CA.out _ (h0.below X0.bel (Nat.le_refl _))).mono ?_; rintro e w1 ⟨rfl, b1⟩
      have X1 := X0.next b1
      have q2 := X1.c2
      clear q1
      go_wp2_with fail
      refine (CB.out _ (h1.below X1.bel (Nat.le_refl _))).mono ?_; rintro e w2 ⟨rfl, b2⟩
      have X2 := X1.next b2
      have HX := Lib.hid (X2.next (below_allocJ w2 (.cells #[] 3)))
      go_wp2_with fail
      go_ret2
      exact ⟨[], _, _, rfl, rfl, by simp, Ints.nil _ _ _ (by omega), HX.out.bel⟩
    | true =>
      rw [hsb] at CB
      obtain ⟨hg, A, rfl, hA⟩ := setB_parts hsa
      obtain ⟨hh, B, rfl, hB⟩ := setB_parts hsb
      have hTa := setT_bd hg
      have hTb := setT_bd hh
      rw [Int.toNat_natCast, Int.toNat_natCast] at HFB HYES
      have PA := Lib.hid (bits_any A (by omega))
      have PB := Lib.hid (bits_any B (by omega))
      have hla : (mems A).length = popc A := mems_length A
      have hA2 : A < 2 ^ gn os := by rw [(grp_gn hg).2.2.2.2] at hA; exact hA
      have hB2 : B < 2 ^ gn hs := by rw [(grp_gn hh).2.2.2.2] at hB; exact hB
      have HEQ := Lib.hid (fun (h6 : 1 ≤ (mems A).length ∧ (mems A).length ≤ 6) (d : Nat) hd => fi_eq (d := d) (m := []) (soB_mems hg hA2) hh (fun x hx => so_lt' (soB_mems hh hB2) x hx) h6 hd (by simp) List.nodup_nil)
      have HLA := Lib.hid (members_any A (by omega))
      have HMA : Hid (∀ x ∈ mems A, 0 ≤ x ∧ x < 1000) := Lib.hid (fun x hx => by have := mems_bd hx; omega)
      have HMB : Hid (∀ x ∈ mems B, 0 ≤ x ∧ x < 1000) := Lib.hid (fun x hx => by have := mems_bd hx; omega)
      have hB40 : B < 1099511627776 := by omega
      have HMB24 : Hid (∀ x ∈ mems B, 0 ≤ x ∧ x < 24) := Lib.hid (fun x hx => by have h1 := mems_lt hB2 hx; have h2 := (grp_gn hh).2.2.1; omega)
      have HGG := Lib.hid hg
      have HHH := Lib.hid hh
      obtain ⟨P, hP⟩ : ∃ p, p = popc A := ⟨_, rfl⟩
      obtain ⟨Q, hQ⟩ : ∃ p, p = popc B := ⟨_, rfl⟩
      rw [← hP] at PA HFB HYES hla
      rw [← hQ] at PB HFB
      have WI := Lib.hid (within_any (P : Int) 1 5)
      clear hTa hTb hA hB hg hh hA2 hB2 hP hQ
      by_cases hPQ : P = Q
      · have hpb : ((P : Int) != (Q : Int)) = false := by rw [hPQ]; simp
        cases hin : inB (P : Int) 1 5 with
        | false =>
          obtain ⟨e1, e2⟩ := HNO.out (by rw [HFB.out, hin]; simp)
          rw [e1, e2]
          rw [hin] at WI
          clear hsa hsb e1 e2 HFB HNO HYES hin hPQ
          go_enter Try.func59, Try.ntmps59
          go_wp2_with fail
          refine (CA.out _ (h0.below X0.bel (Nat.le_refl _))).mono ?_; rintro e w1 ⟨rfl, b1⟩
          have X1 := X0.next b1
          have q2 := X1.c2
          clear q1
          go_wp2_with fail
          refine (CB.out _ (h1.below X1.bel (Nat.le_refl _))).mono ?_; rintro e w2 ⟨rfl, b2⟩
          have X2 := X1.next b2
          have HX := Lib.hid (X2.next (below_allocJ w2 (.cells #[] 3)))
          go_wp2_with fail
          refine (PA.out _).mono ?_; rintro e w' ⟨rfl, rfl⟩
          go_wp2_with fail
          refine (PB.out _).mono ?_; rintro e w' ⟨rfl, rfl⟩
          go_wp2_with fail
          refine (PA.out _).mono ?_; rintro e w' ⟨rfl, rfl⟩
          go_wp2_with fail
          refine (WI.out _).mono ?_; rintro e w' ⟨rfl, rfl⟩
          go_wp2_with fail
          go_ret2
          exact ⟨[], _, _, rfl, rfl, by simp, Ints.nil _ _ _ (by omega), HX.out.bel⟩
        | true =>
          have hP5 : 1 ≤ P ∧ P ≤ 5 := by have := inB_true.1 hin; omega
          have hy := HYES.out (by rw [HFB.out, hsa, hsb, hin, decide_eq_true hPQ]; rfl)
          have HY5 : Hid (∀ y, O = some y → y.length ≤ 5) := Lib.hid (fun y h => by
            rw [hy] at h
            have := (fiI_found (by simp; omega) (by simp) List.nodup_nil h).1
            omega)
          rw [hin] at WI
          have HLB2 := Lib.hid (members_any B (by omega))
          have HCL := Lib.hid (fun (w0 : World) (al : Option Addr) (cl : Nat) (aa : Option Addr) (ca bm bl bg bh ba bu bt : Nat) (H0 : Ints w0 ag cg os) (H1 : Ints w0 ah ch hs) (HL : Ints w0 al cl (mems A)) (HA : Ints w0 aa ca (mems B)) hbl hba hbg hbh zl za zg zh (am : Option Addr) (cm : Nat) (w : World) he hb => ff_cl w0 ag cg os ah ch hs al cl (mems A) aa ca (mems B) bm bl bg bh ba bu bt H0 H1 HL HA hbl hba hbg hbh zl za zg zh HGG.out HHH.out (by omega) HMA.out HMB24.out (mems_len B) P [] am cm 0 w (by simp; omega) he hb (by simp) (by decide) (by simp))
          rw [← hy] at HCL
          obtain ⟨L, hL⟩ : ∃ L, L = mems A := ⟨_, rfl⟩
          obtain ⟨Lb, hLb⟩ : ∃ L, L = mems B := ⟨_, rfl⟩
          rw [← hL] at HLA HCL
          rw [← hLb] at HLB2 HCL
          clear hsa hsb HFB HNO HYES hin hPQ hla hy hL hLb HMA HMB HMB24 HEQ hP5
          go_enter Try.func59, Try.ntmps59
          go_wp2_with fail
          refine (CA.out _ (h0.below X0.bel (Nat.le_refl _))).mono ?_; rintro e w1 ⟨rfl, b1⟩
          have X1 := X0.next b1
          have q2 := X1.c2
          clear q1
          go_wp2_with fail
          refine (CB.out _ (h1.below X1.bel (Nat.le_refl _))).mono ?_; rintro e w3 ⟨rfl, b2⟩
          have X3 := X1.next b2
          clear X0 X1 b1 b2 q2
          go_wp2_with fail
          refine (PA.out _).mono ?_; rintro e w' ⟨rfl, rfl⟩
          go_wp2_with fail
          refine (PB.out _).mono ?_; rintro e w' ⟨rfl, rfl⟩
          go_wp2_with fail
          refine (PA.out _).mono ?_; rintro e w' ⟨rfl, rfl⟩
          go_wp2_with fail
          refine (WI.out _).mono ?_; rintro e w' ⟨rfl, rfl⟩
          go_wp2_with fail
          refine (HLA.out _).mono ?_; rintro e w4 ⟨al, cl, rfl, oL, b4⟩
          have X4 := X3.next b4
          have iL := oL.ints
          clear X3 oL b4
          go_wp2_with fail
          refine (HLB2.out _).mono ?_; rintro e w5 ⟨aa, ca, rfl, oB, b5⟩
          have X5 := X4.next b5
          have iL5 := iL.below b5 (Nat.le_refl _)
          have iB5 := oB.ints
          have X6 := (X5.next (below_allocJ w5 (.cells #[.slice al L.length cl] 24))).next (below_allocJ _ (.cells #[.slice aa Lb.length ca] 24))
          have iL6 := (iL5.alloc (.cells #[.slice al L.length cl] 24)).alloc (.cells #[.slice aa Lb.length ca] 24)
          have iB6 := (iB5.alloc (.cells #[.slice al L.length cl] 24)).alloc (.cells #[.slice aa Lb.length ca] 24)
          have ql : ((w5.alloc (.cells #[.slice al L.length cl] 24)).alloc (.cells #[.slice aa Lb.length ca] 24)).cell? ⟨w5.heap.size, 0, none⟩ = some (.slice al L.length cl) := cell_of_one (one_alloc (new_at rfl))
          have qa : ((w5.alloc (.cells #[.slice al L.length cl] 24)).alloc (.cells #[.slice aa Lb.length ca] 24)).cell? ⟨w5.heap.size + 1, 0, none⟩ = some (.slice aa Lb.length ca) := cell_of_one (new_at (by simp))
          obtain ⟨W6, hW6⟩ : ∃ W, W = (w5.alloc (.cells #[.slice al L.length cl] 24)).alloc (.cells #[.slice aa Lb.length ca] 24) := ⟨_, rfl⟩
          have hs6 : W6.heap.size = w5.heap.size + 2 := by rw [hW6]; simp
          rw [← hW6] at X6 iL6 iB6 ql qa
          have CF := Lib.hid (HCL.out W6 al cl aa ca (w5.heap.size + 3) w5.heap.size w.heap.size (w.heap.size + 1) (w5.heap.size + 1) (w5.heap.size + 4) (w5.heap.size + 5) (h0.below X6.bel (Nat.le_refl _)) (h1.below X6.bel (Nat.le_refl _)) iL6 iB6 ql qa X6.c1 X6.c2 (by omega) (by omega) (by have := X6.lt; omega) X6.lt (some ⟨w5.heap.size + 2, 0, none⟩) 0)
          have HX6 := Lib.hid X6
          have HW6 := Lib.hid hW6
          have HS6 := Lib.hid hs6
          clear iL iL5 iB5 iL6 iB6 ql qa X4 X5 X6 hW6 hs6 oB b5 HCL h0 h1
          go_wp2_with fail
          rw [← HW6.out]
          refine (CF.out _ ?env ?bel).mono ?_
          case env =>
            refine ⟨?_, ?_, ?_, ?_, ⟨⟨by omega, by omega, by omega⟩, by rw [HS6.out]; omega, by rw [HS6.out]; omega⟩, ?_⟩
            · exact one_alloc (one_alloc (new_at (by simp [HS6.out])))
            · exact one_alloc (new_at (by simp [HS6.out]))
            · exact new_at (by simp [HS6.out])
            · have ho := OwnI.made_at (w := W6) (B := W6.heap.size) (n := w5.heap.size + 2) (by rw [HS6.out]) (by rw [HS6.out]; exact Nat.le_refl _)
              exact ((ho.alloc _).alloc _).alloc _
            · intro b hb
              have e : w5.heap.size + 2 = b := by simpa [Value.ownBlock] using hb
              subst e
              exact ⟨by omega, by omega, by omega⟩
          case bel =>
            have h1 := (Below.refl W6.heap.size W6).alloc (Nat.le_refl _) (.cells #[] 3)
            exact (((h1.alloc h1.size _).alloc (by simp; omega) _).alloc (by simp; omega) _)
          rintro e w7 ⟨rfl, m', am', cm', u', env, hb7, hR⟩
          have X7 := HX6.out.bel.trans (hb7.mono HX6.out.bel.size)
          cases O with
          | none =>
            have HX := Lib.hid (X7.trans ((below_allocJ w7 (.cells #[] 3)).mono X7.size))
            clear env hb7 CF
            go_wp2_with fail
            go_ret2
            exact ⟨[], _, _, rfl, rfl, by simp, Ints.nil _ _ _ (by omega), HX.out⟩
          | some y =>
            have em : m' = y := hR.2 y rfl
            subst em
            have h5 := HY5.out m' rfl
            have qm := cell_of_one env.hm
            have im := env.om.ints
            clear env hb7 CF
            go_wp2_with fail
            go_ret2
            exact ⟨m', _, _, rfl, rfl, h5, im, X7⟩
      · have hpb : ((P : Int) != (Q : Int)) = true := by simp; omega
        obtain ⟨e1, e2⟩ := HNO.out (by rw [HFB.out, decide_eq_false hPQ]; simp)
        rw [e1, e2]
        clear hsa hsb e1 e2 HFB HNO HYES hPQ
        go_enter Try.func59, Try.ntmps59
        go_wp2_with fail
        refine (CA.out _ (h0.below X0.bel (Nat.le_refl _))).mono ?_; rintro e w1 ⟨rfl, b1⟩
        have X1 := X0.next b1
        have q2 := X1.c2
        clear q1
        go_wp2_with fail
        refine (CB.out _ (h1.below X1.bel (Nat.le_refl _))).mono ?_; rintro e w2 ⟨rfl, b2⟩
        have X2 := X1.next b2
        have HX := Lib.hid (X2.next (below_allocJ w2 (.cells #[] 3)))
        go_wp2_with fail
        refine (PA.out _).mono ?_; rintro e w' ⟨rfl, rfl⟩
        go_wp2_with fail
        refine (PB.out _).mono ?_; rintro e w' ⟨rfl, rfl⟩
        go_wp2_with fail
        go_ret2
        exact ⟨[], _, _, rfl, rfl, by simp, Ints.nil _ _ _ (by omega), HX.out.bel⟩
end Go.Proofs.Ytokpgbpdmfibjaa

namespace Go.Proofs.Ytokpgbpdmfibjaa
open Go.RowKit Go.ChangeShapes
set_option linter.unusedVariables false
set_option linter.unusedSimpArgs false

set_option maxRecDepth 20000 in
set_option maxHeartbeats 6400000 in
theorem ff_spec (ag : Option Addr) (cg : Nat) (os : List Int) (ah : Option Addr) (ch : Nat) (hs : List Int) (a b : Int) (w : World) (h0 : Ints w ag cg os) (h1 : Ints w ah ch hs) (hol : os.length ≤ 2000000) (hhl : hs.length ≤ 2000000) :
    Calls Try.prog 60 #[.agg #[.slice ag os.length cg], .agg #[.slice ah hs.length ch], .int .i64 a, .int .i64 b] w fun e w' => ∃ (r : List Int) (ar : Option Addr) (cr : Nat), e = .returned (.tuple #[.slice ar r.length cr, .bool (ffO os hs a b).isSome]) ∧ (ffO os hs a b).getD [] = r ∧ r.length ≤ 5 ∧ Ints w' ar cr r ∧ Below w.heap.size w w' := by
  have X0 := KpW.start w ag cg os ah ch hs
  have q1 := X0.c1
  have CA := Lib.hid (fun w h => isSet_spec ag cg os a w h hol)
  have CB := Lib.hid (fun w h => isSet_spec ah ch hs b w h hhl)
  have HFB : Hid (ffB os hs a b = (setB os a && (setB hs b && (decide (popc a.toNat = popc b.toNat) && inB (popc a.toNat : Int) 1 5)))) := Lib.hid rfl
  have HNO : Hid (ffB os hs a b = false → (ffO os hs a b).isSome = false ∧ (ffO os hs a b).getD [] = []) := Lib.hid (fun h => by unfold ffO; rw [h]; simp)
  have HYES : Hid (ffB os hs a b = true → ffO os hs a b = fiI os hs (mems a.toNat) (mems b.toNat) (popc a.toNat) []) := Lib.hid (fun h => by unfold ffO; rw [h]; simp)
  obtain ⟨O, hO⟩ : ∃ o, o = ffO os hs a b := ⟨_, rfl⟩
  rw [← hO] at HNO HYES ⊢
  clear hO
  cases hsa : setB os a with
  | false =>
    obtain ⟨e1, e2⟩ := HNO.out (by rw [HFB.out, hsa]; rfl)
    rw [e1, e2]
    rw [hsa] at CA
    clear hsa e1 e2 HFB HNO HYES
    go_enter Try.func60, Try.ntmps60
    go_wp2_with fail
    refine (CA.out _ (h0.below X0.bel (Nat.le_refl _))).mono ?_; rintro e w1 ⟨rfl, b1⟩
    have X1 := X0.next b1
    have HX := Lib.hid (X1.next (below_allocM' w1 (.cells #[] 3)))
    go_wp2_with fail
    go_ret2
    exact ⟨[], _, _, rfl, rfl, by simp, Ints.nil _ _ _ (by omega), HX.out.bel⟩
  | true =>
    rw [hsa] at CA
    cases hsb : setB hs b with
    | false =>
      obtain ⟨e1, e2⟩ := HNO.out (by rw [HFB.out, hsb]; simp)
      rw [e1, e2]
      rw [hsb] at CB
      clear hsa hsb e1 e2 HFB HNO HYES
      go_enter Try.func60, Try.ntmps60
      go_wp2_with fail
      refine (CA.out _ (h0.below X0.bel (Nat.le_refl _))).mono ?_; rintro e w1 ⟨rfl, b1⟩
      have X1 := X0.next b1
      have q2 := X1.c2
      clear q1
      go_wp2_with fail
      refine (CB.out _ (h1.below X1.bel (Nat.le_refl _))).mono ?_; rintro e w2 ⟨rfl, b2⟩
      have X2 := X1.next b2
      have HX := Lib.hid (X2.next (below_allocM' w2 (.cells #[] 3)))
      go_wp2_with fail
      go_ret2
      exact ⟨[], _, _, rfl, rfl, by simp, Ints.nil _ _ _ (by omega), HX.out.bel⟩
    | true =>
      rw [hsb] at CB
      obtain ⟨hg, A, rfl, hA⟩ := setB_parts hsa
      obtain ⟨hh, B, rfl, hB⟩ := setB_parts hsb
      have hTa := setT_bd hg
      have hTb := setT_bd hh
      rw [Int.toNat_natCast, Int.toNat_natCast] at HFB HYES
      have PA := Lib.hid (l3Bits_any A (by omega))
      have PB := Lib.hid (l3Bits_any B (by omega))
      have hla : (mems A).length = popc A := mems_length A
      have hA2 : A < 2 ^ gn os := by rw [(grp_gn hg).2.2.2.2] at hA; exact hA
      have hB2 : B < 2 ^ gn hs := by rw [(grp_gn hh).2.2.2.2] at hB; exact hB
      have HEQ := Lib.hid (fun (h6 : 1 ≤ (mems A).length ∧ (mems A).length ≤ 6) (d : Nat) hd => fi_eq (d := d) (m := []) (soB_mems hg hA2) hh (fun x hx => so_lt' (soB_mems hh hB2) x hx) h6 hd (by simp) List.nodup_nil)
      have HLA := Lib.hid (l3List_any A (by omega))
      have HMA : Hid (∀ x ∈ mems A, 0 ≤ x ∧ x < 1000) := Lib.hid (fun x hx => by have := mems_bd hx; omega)
      have HMB : Hid (∀ x ∈ mems B, 0 ≤ x ∧ x < 1000) := Lib.hid (fun x hx => by have := mems_bd hx; omega)
      have hB40 : B < 1099511627776 := by omega
      have HGG := Lib.hid hg
      have HHH := Lib.hid hh
      obtain ⟨P, hP⟩ : ∃ p, p = popc A := ⟨_, rfl⟩
      obtain ⟨Q, hQ⟩ : ∃ p, p = popc B := ⟨_, rfl⟩
      rw [← hP] at PA HFB HYES hla
      rw [← hQ] at PB HFB
      have WI := Lib.hid (l1In_any (P : Int) 1 5)
      clear hTa hTb hA hB hg hh hA2 hB2 hP hQ
      by_cases hPQ : P = Q
      · have hpb : ((P : Int) != (Q : Int)) = false := by rw [hPQ]; simp
        cases hin : inB (P : Int) 1 5 with
        | false =>
          obtain ⟨e1, e2⟩ := HNO.out (by rw [HFB.out, hin]; simp)
          rw [e1, e2]
          rw [hin] at WI
          clear hsa hsb e1 e2 HFB HNO HYES hin hPQ
          go_enter Try.func60, Try.ntmps60
          go_wp2_with fail
          refine (CA.out _ (h0.below X0.bel (Nat.le_refl _))).mono ?_; rintro e w1 ⟨rfl, b1⟩
          have X1 := X0.next b1
          have q2 := X1.c2
          clear q1
          go_wp2_with fail
          refine (CB.out _ (h1.below X1.bel (Nat.le_refl _))).mono ?_; rintro e w2 ⟨rfl, b2⟩
          have X2 := X1.next b2
          have HX := Lib.hid (X2.next (below_allocM' w2 (.cells #[] 3)))
          go_wp2_with fail
          refine (PA.out _).mono ?_; rintro e w' ⟨rfl, rfl⟩
          go_wp2_with fail
          refine (PB.out _).mono ?_; rintro e w' ⟨rfl, rfl⟩
          go_wp2_with fail
          refine (PA.out _).mono ?_; rintro e w' ⟨rfl, rfl⟩
          go_wp2_with fail
          refine (WI.out _).mono ?_; rintro e w' ⟨rfl, rfl⟩
          go_wp2_with fail
          go_ret2
          exact ⟨[], _, _, rfl, rfl, by simp, Ints.nil _ _ _ (by omega), HX.out.bel⟩
        | true =>
          have hP5 : 1 ≤ P ∧ P ≤ 5 := by have := inB_true.1 hin; omega
          have hy := HYES.out (by rw [HFB.out, hsa, hsb, hin, decide_eq_true hPQ]; rfl)
          have HOS : Hid (O = fiS os hs (mems A) (mems B) P []) := Lib.hid (by rw [hy, HEQ.out (by omega) P (by simp; omega)])
          rw [hin] at WI
          have HFI := Lib.hid (fun (w0 : World) (bl ol cl : Nat) (H0 : Ints w0 ag cg os) (H1 : Ints w0 ah ch hs) (HL : Ints w0 (some ⟨bl, ol, none⟩) cl (mems A)) (am : Addr) (cm : Nat) (w : World) (HI : Ints w (some am) cm []) (hb : Below w0.heap.size w0 w) => find15_any w0 ag cg os ah ch hs bl ol cl (mems A) B H0 H1 HL HGG.out HHH.out (by omega) HMA.out hB40 HMB.out P [] am cm w (by simp; omega) (by simp) HI hb)
          have HPN : Hid (¬ P = 0) := Lib.hid (by omega)
          rw [← HOS.out] at HFI
          simp only [if_neg HPN.out] at HFI
          have hL0 : 0 < (mems A).length := by omega
          obtain ⟨L, hL⟩ : ∃ L, L = mems A := ⟨_, rfl⟩
          rw [← hL] at HLA HFI hL0
          clear hsa hsb HFB HNO HYES hin hPQ hla hy HOS hL HMA HMB HEQ hP5
          go_enter Try.func60, Try.ntmps60
          go_wp2_with fail
          refine (CA.out _ (h0.below X0.bel (Nat.le_refl _))).mono ?_; rintro e w1 ⟨rfl, b1⟩
          have X1 := X0.next b1
          have q2 := X1.c2
          clear q1
          go_wp2_with fail
          refine (CB.out _ (h1.below X1.bel (Nat.le_refl _))).mono ?_; rintro e w3 ⟨rfl, b2⟩
          have X3 := X1.next b2
          clear X0 X1 b1 b2 q2
          go_wp2_with fail
          refine (PA.out _).mono ?_; rintro e w' ⟨rfl, rfl⟩
          go_wp2_with fail
          refine (PB.out _).mono ?_; rintro e w' ⟨rfl, rfl⟩
          go_wp2_with fail
          refine (PA.out _).mono ?_; rintro e w' ⟨rfl, rfl⟩
          go_wp2_with fail
          refine (WI.out _).mono ?_; rintro e w' ⟨rfl, rfl⟩
          have X4 := X3.drew
          have HA0 := Lib.hid h0
          have HA1 := Lib.hid h1
          clear h0 h1
          go_wp2_with fail
          refine wp_region_held_drew (S := (fun w' => w'.cell? ⟨w.heap.size, 0, none⟩ = some (.slice ag os.length cg) ∧ w'.cell? ⟨w.heap.size + 1, 0, none⟩ = some (.slice ah hs.length ch))) (by as_aux_lemma => kernel_rfl) ⟨X4.c1, X4.c2⟩ (fun hHeld => ?_)
          refine wpAnyH_take (i := 0) (v := ?_) rfl (by as_aux_lemma => kernel_rfl) (by as_aux_lemma => kernel_rfl) (by as_aux_lemma => kernel_rfl) (fun _ _ _ h => h) (Or.inl ⟨by first | kernel_rfl | rfl, ?_⟩) (by assumption) ?_
          rotate_left
          · intro w hSw
            (try dsimp only at hSw)
            (try go_split_ands)
            go_simp
            try with_reducible rfl
          (try simp only [Act.put, List.setIfInBounds_toArray, List.set_cons_zero, List.set_cons_succ])
          refine wpAnyH_take (i := 1) (v := ?_) rfl (by as_aux_lemma => kernel_rfl) (by as_aux_lemma => kernel_rfl) (by as_aux_lemma => kernel_rfl) (fun _ _ _ h => h) (Or.inl ⟨by first | kernel_rfl | rfl, ?_⟩) (by assumption) ?_
          rotate_left
          · intro w hSw
            (try dsimp only at hSw)
            (try go_split_ands)
            go_simp
            try with_reducible rfl
          (try simp only [Act.put, List.setIfInBounds_toArray, List.set_cons_zero, List.set_cons_succ])
          refine wpAnyH_take (i := 2) (v := ?_) rfl (by as_aux_lemma => kernel_rfl) (by as_aux_lemma => kernel_rfl) (by as_aux_lemma => kernel_rfl) (fun _ _ _ h => h) (Or.inl ⟨by first | kernel_rfl | rfl, ?_⟩) (by assumption) ?_
          rotate_left
          · intro w hSw
            (try dsimp only at hSw)
            (try go_split_ands)
            go_simp
            try with_reducible rfl
          (try simp only [Act.put, List.setIfInBounds_toArray, List.set_cons_zero, List.set_cons_succ])
          refine wpAnyH_take (i := 5) (v := ?_) rfl (by as_aux_lemma => kernel_rfl) (by as_aux_lemma => kernel_rfl) (by as_aux_lemma => kernel_rfl) (fun _ _ _ h => h) (Or.inl ⟨by first | kernel_rfl | rfl, ?_⟩) (by assumption) ?_
          rotate_left
          · intro w hSw
            (try dsimp only at hSw)
            (try go_split_ands)
            go_simp
            try with_reducible rfl
          (try simp only [Act.put, List.setIfInBounds_toArray, List.set_cons_zero, List.set_cons_succ])
          refine wpAnyH_ready (rs := [3, 4]) (by as_aux_lemma => kernel_rfl) (by simp) ?_
          refine AllReadyH.cons rfl (fun K hK => ?_) (AllReadyH.cons rfl (fun K hK => ?_) AllReadyH.nil)
          · go_simp
            go_at_call 116
            refine (HLA.out _).mono ?_; rintro e w4 ⟨al, cl, rfl, oL, b4⟩
            obtain ⟨bl, ol, hal, -, -⟩ := oL.ints.2.2.2.2.resolve_left (by intro h; rw [h] at hL0; simp at hL0)
            subst hal
            have X5 := X4.next b4
            have iL := oL.ints
            clear oL b4
            refine hK.out _ _ ⟨X5.c1, X5.c2⟩ (fun hHeld => ?_)
            clear hK K
            (try simp only [Act.put, List.setIfInBounds_toArray, List.set_cons_zero, List.set_cons_succ])
            refine wpAnyH_ready (rs := [4]) (by as_aux_lemma => kernel_rfl) (by simp) ?_
            refine AllReadyH.cons rfl (fun K hK => ?_) AllReadyH.nil
            go_simp
            have X6 := X5.next (below_allocM' w4 (.cells #[] 3))
            have iL2 := iL.alloc (.cells #[] 3)
            obtain ⟨w5, hw5⟩ : ∃ W, W = w4.alloc (.cells #[] 3) := ⟨_, rfl⟩
            rw [← hw5] at X6 iL2 ⊢
            clear X5 iL hw5
            refine hK.out _ _ ⟨X6.c1, X6.c2⟩ (fun hHeld => ?_)
            clear hK K
            (try simp only [Act.put, List.setIfInBounds_toArray, List.set_cons_zero, List.set_cons_succ])
            refine wpAnyH_ready (rs := [6]) (by as_aux_lemma => kernel_rfl) (by simp) ?_
            refine AllReadyH.cons rfl (fun K hK => ?_) AllReadyH.nil
            go_simp
            go_at_call 124
            refine (HFI.out w5 bl ol cl (HA0.out.below X6.bel (Nat.le_refl _)) (HA1.out.below X6.bel (Nat.le_refl _)) iL2 _ 0 w5 (Ints.nil _ _ _ (by omega)) (Below.refl _ _)).mono ?_; rintro e w6 ⟨r, ar, cr, rfl, hr, hr5, ir, b6⟩
            have X7 := X6.next b6
            clear b6
            refine hK.out _ _ ⟨X7.c1, X7.c2⟩ (fun hHeld => ?_)
            clear hK K
            (try simp only [Act.put, List.setIfInBounds_toArray, List.set_cons_zero, List.set_cons_succ])
            refine wpAnyH_take (i := 7) (v := ?_) rfl (by as_aux_lemma => kernel_rfl) (by as_aux_lemma => kernel_rfl) (by as_aux_lemma => kernel_rfl) (fun _ _ _ h => h) (Or.inl ⟨by first | kernel_rfl | rfl, ?_⟩) (by assumption) ?_
            rotate_left
            · intro w hSw
              (try dsimp only at hSw)
              (try go_split_ands)
              go_simp
              try with_reducible rfl
            (try simp only [Act.put, List.setIfInBounds_toArray, List.set_cons_zero, List.set_cons_succ])
            refine wpAnyH_take (i := 8) (v := ?_) rfl (by as_aux_lemma => kernel_rfl) (by as_aux_lemma => kernel_rfl) (by as_aux_lemma => kernel_rfl) (fun _ _ _ h => h) (Or.inl ⟨by first | kernel_rfl | rfl, ?_⟩) (by assumption) ?_
            rotate_left
            · intro w hSw
              (try dsimp only at hSw)
              (try go_split_ands)
              go_simp
              try with_reducible rfl
            (try simp only [Act.put, List.setIfInBounds_toArray, List.set_cons_zero, List.set_cons_succ])
            refine wpAnyH_take (i := 9) (v := ?_) rfl (by as_aux_lemma => kernel_rfl) (by as_aux_lemma => kernel_rfl) (by as_aux_lemma => kernel_rfl) (fun _ _ _ h => h) (Or.inl ⟨by first | kernel_rfl | rfl, ?_⟩) (by assumption) ?_
            rotate_left
            · intro w hSw
              (try dsimp only at hSw)
              (try go_split_ands)
              go_simp
              try with_reducible rfl
            (try simp only [Act.put, List.setIfInBounds_toArray, List.set_cons_zero, List.set_cons_succ])
            refine wpAnyH_take (i := 10) (v := ?_) rfl (by as_aux_lemma => kernel_rfl) (by as_aux_lemma => kernel_rfl) (by as_aux_lemma => kernel_rfl) (fun _ _ _ h => h) (Or.inl ⟨by first | kernel_rfl | rfl, ?_⟩) (by assumption) ?_
            rotate_left
            · intro w hSw
              (try dsimp only at hSw)
              (try go_split_ands)
              go_simp
              try with_reducible rfl
            (try simp only [Act.put, List.setIfInBounds_toArray, List.set_cons_zero, List.set_cons_succ])
            refine wpAnyH_take (i := 11) (v := ?_) rfl (by as_aux_lemma => kernel_rfl) (by as_aux_lemma => kernel_rfl) (by as_aux_lemma => kernel_rfl) (fun _ _ _ h => h) (Or.inl ⟨by first | kernel_rfl | rfl, ?_⟩) (by assumption) ?_
            rotate_left
            · intro w hSw
              (try dsimp only at hSw)
              (try go_split_ands)
              go_simp
              try with_reducible rfl
            (try simp only [Act.put, List.setIfInBounds_toArray, List.set_cons_zero, List.set_cons_succ])
            refine wpAnyH_done (by as_aux_lemma => kernel_rfl) ?_ _
            (try simp only [List.getElem_toArray, List.getElem_cons_succ, List.getElem_cons_zero, Act.put, List.setIfInBounds_toArray, List.set_cons_zero, List.set_cons_succ])
            go_wp2_with fail
            go_ret2
            exact ⟨r, _, _, rfl, hr, hr5, ir, X7.bel⟩
          · go_simp
            have X5 := (X3.next (below_allocM' w3 (.cells #[] 3))).drew
            obtain ⟨wE, hwE⟩ : ∃ W, W = (w3.alloc (.cells #[] 3)).drew := ⟨_, rfl⟩
            rw [← hwE] at X5 ⊢
            clear X4 hwE
            refine hK.out _ _ ⟨X5.c1, X5.c2⟩ (fun hHeld => ?_)
            clear hK K
            (try simp only [Act.put, List.setIfInBounds_toArray, List.set_cons_zero, List.set_cons_succ])
            refine wpAnyH_ready (rs := [3]) (by as_aux_lemma => kernel_rfl) (by simp) ?_
            refine AllReadyH.cons rfl (fun K hK => ?_) AllReadyH.nil
            go_simp
            go_at_call 116
            refine (HLA.out _).mono ?_; rintro e w4 ⟨al, cl, rfl, oL, b4⟩
            obtain ⟨bl, ol, hal, -, -⟩ := oL.ints.2.2.2.2.resolve_left (by intro h; rw [h] at hL0; simp at hL0)
            subst hal
            have X6 := X5.next b4
            have iL := oL.ints
            clear oL b4 X5
            refine hK.out _ _ ⟨X6.c1, X6.c2⟩ (fun hHeld => ?_)
            clear hK K
            (try simp only [Act.put, List.setIfInBounds_toArray, List.set_cons_zero, List.set_cons_succ])
            refine wpAnyH_ready (rs := [6]) (by as_aux_lemma => kernel_rfl) (by simp) ?_
            refine AllReadyH.cons rfl (fun K hK => ?_) AllReadyH.nil
            go_simp
            go_at_call 124
            refine (HFI.out w4 bl ol cl (HA0.out.below X6.bel (Nat.le_refl _)) (HA1.out.below X6.bel (Nat.le_refl _)) iL _ 0 w4 (Ints.nil _ _ _ (by omega)) (Below.refl _ _)).mono ?_; rintro e w6 ⟨r, ar, cr, rfl, hr, hr5, ir, b6⟩
            have X7 := X6.next b6
            clear b6
            refine hK.out _ _ ⟨X7.c1, X7.c2⟩ (fun hHeld => ?_)
            clear hK K
            (try simp only [Act.put, List.setIfInBounds_toArray, List.set_cons_zero, List.set_cons_succ])
            refine wpAnyH_take (i := 7) (v := ?_) rfl (by as_aux_lemma => kernel_rfl) (by as_aux_lemma => kernel_rfl) (by as_aux_lemma => kernel_rfl) (fun _ _ _ h => h) (Or.inl ⟨by first | kernel_rfl | rfl, ?_⟩) (by assumption) ?_
            rotate_left
            · intro w hSw
              (try dsimp only at hSw)
              (try go_split_ands)
              go_simp
              try with_reducible rfl
            (try simp only [Act.put, List.setIfInBounds_toArray, List.set_cons_zero, List.set_cons_succ])
            refine wpAnyH_take (i := 8) (v := ?_) rfl (by as_aux_lemma => kernel_rfl) (by as_aux_lemma => kernel_rfl) (by as_aux_lemma => kernel_rfl) (fun _ _ _ h => h) (Or.inl ⟨by first | kernel_rfl | rfl, ?_⟩) (by assumption) ?_
            rotate_left
            · intro w hSw
              (try dsimp only at hSw)
              (try go_split_ands)
              go_simp
              try with_reducible rfl
            (try simp only [Act.put, List.setIfInBounds_toArray, List.set_cons_zero, List.set_cons_succ])
            refine wpAnyH_take (i := 9) (v := ?_) rfl (by as_aux_lemma => kernel_rfl) (by as_aux_lemma => kernel_rfl) (by as_aux_lemma => kernel_rfl) (fun _ _ _ h => h) (Or.inl ⟨by first | kernel_rfl | rfl, ?_⟩) (by assumption) ?_
            rotate_left
            · intro w hSw
              (try dsimp only at hSw)
              (try go_split_ands)
              go_simp
              try with_reducible rfl
            (try simp only [Act.put, List.setIfInBounds_toArray, List.set_cons_zero, List.set_cons_succ])
            refine wpAnyH_take (i := 10) (v := ?_) rfl (by as_aux_lemma => kernel_rfl) (by as_aux_lemma => kernel_rfl) (by as_aux_lemma => kernel_rfl) (fun _ _ _ h => h) (Or.inl ⟨by first | kernel_rfl | rfl, ?_⟩) (by assumption) ?_
            rotate_left
            · intro w hSw
              (try dsimp only at hSw)
              (try go_split_ands)
              go_simp
              try with_reducible rfl
            (try simp only [Act.put, List.setIfInBounds_toArray, List.set_cons_zero, List.set_cons_succ])
            refine wpAnyH_take (i := 11) (v := ?_) rfl (by as_aux_lemma => kernel_rfl) (by as_aux_lemma => kernel_rfl) (by as_aux_lemma => kernel_rfl) (fun _ _ _ h => h) (Or.inl ⟨by first | kernel_rfl | rfl, ?_⟩) (by assumption) ?_
            rotate_left
            · intro w hSw
              (try dsimp only at hSw)
              (try go_split_ands)
              go_simp
              try with_reducible rfl
            (try simp only [Act.put, List.setIfInBounds_toArray, List.set_cons_zero, List.set_cons_succ])
            refine wpAnyH_done (by as_aux_lemma => kernel_rfl) ?_ _
            (try simp only [List.getElem_toArray, List.getElem_cons_succ, List.getElem_cons_zero, Act.put, List.setIfInBounds_toArray, List.set_cons_zero, List.set_cons_succ])
            go_wp2_with fail
            go_ret2
            exact ⟨r, _, _, rfl, hr, hr5, ir, X7.bel⟩
      · have hpb : ((P : Int) != (Q : Int)) = true := by simp; omega
        obtain ⟨e1, e2⟩ := HNO.out (by rw [HFB.out, decide_eq_false hPQ]; simp)
        rw [e1, e2]
        clear hsa hsb e1 e2 HFB HNO HYES hPQ
        go_enter Try.func60, Try.ntmps60
        go_wp2_with fail
        refine (CA.out _ (h0.below X0.bel (Nat.le_refl _))).mono ?_; rintro e w1 ⟨rfl, b1⟩
        have X1 := X0.next b1
        have q2 := X1.c2
        clear q1
        go_wp2_with fail
        refine (CB.out _ (h1.below X1.bel (Nat.le_refl _))).mono ?_; rintro e w2 ⟨rfl, b2⟩
        have X2 := X1.next b2
        have HX := Lib.hid (X2.next (below_allocM' w2 (.cells #[] 3)))
        go_wp2_with fail
        refine (PA.out _).mono ?_; rintro e w' ⟨rfl, rfl⟩
        go_wp2_with fail
        refine (PB.out _).mono ?_; rintro e w' ⟨rfl, rfl⟩
        go_wp2_with fail
        go_ret2
        exact ⟨[], _, _, rfl, rfl, by simp, Ints.nil _ _ _ (by omega), HX.out.bel⟩
end Go.Proofs.Ytokpgbpdmfibjaa
