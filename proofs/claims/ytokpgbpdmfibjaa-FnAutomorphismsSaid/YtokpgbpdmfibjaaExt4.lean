/-
Contract of the reference's list of automorphisms. Conditions: lengths at most 2000000.
-/
import Derived.Test.YtokpgbpdmfibjaaExt3
namespace Go.Proofs.Ytokpgbpdmfibjaa
open Go.RowKit Go.ChangeShapes
set_option linter.unusedVariables false
set_option linter.unusedSimpArgs false

/-- A new list of one number. -/
theorem OwnI.made1 {w : World} {B g : Nat} {x : Int} (hg : g = w.heap.size) (hB : B ≤ g) (hx : (Lit.int .i64 x).wf = true) : OwnI (w.alloc (.cells #[.int .i64 x] 3)) B (some ⟨g, 0, none⟩) 1 [x] := by
  subst hg
  exact ⟨by simpa using hx, by simp, .inr ⟨w.heap.size, 1, #[.int .i64 x], rfl, hB, heap_alloc_new w _, by simp, by simp [maxLen], by simp, by simp⟩⟩
/-- What a call that hands back a new list of lists and a truth leaves. -/
def GaveR (w : World) (F : List (List Int)) (b : Bool) (e : Ending) (w' : World) : Prop :=
  ∃ a c vs, e = .returned (.tuple #[.slice a F.length c, .bool b]) ∧ OwnR w' w.heap.size a c F.length (fun i => F.getD i []) vs ∧ Below w.heap.size w w'
/-- Whether there is a list of automorphisms, and the list. -/
def atB (os : List Int) : Bool := grpB os && decide (gn os ≤ 9)
noncomputable def atL (os : List Int) : List (List Int) := if atB os = true then autL os else []
theorem dgts_low (N : Nat) : ∀ i c, dgts N (i + 1) c = (((c / N ^ i) % N : Nat) : Int) :: dgts N i c
  | 0, c => by simp [dgts]
  | i + 1, c => by
    rw [dgts, dgts_low N i (c / N), dgts, Nat.div_div_eq_div_mul, Nat.pow_succ, Nat.mul_comm (N ^ i) N, List.cons_append]
theorem dgts_len (N : Nat) : ∀ i c, (dgts N i c).length = i
  | 0, _ => rfl
  | i + 1, c => by simp [dgts, dgts_len N i]
theorem dgts_lt {N : Nat} (hN : 0 < N) : ∀ i c, ∀ x ∈ dgts N i c, 0 ≤ x ∧ x < (N : Int)
  | 0, _, x, hx => by simp [dgts] at hx
  | i + 1, c, x, hx => by
    rw [dgts, List.mem_append] at hx
    rcases hx with hx | hx
    · exact dgts_lt hN i _ x hx
    · have := Nat.mod_lt c hN
      simp at hx
      subst hx
      omega
/-- The lists by the codes below a number. -/
noncomputable def atF (os : List Int) (k : Nat) : List (List Int) := (List.range k).flatMap fun c => tstA os (dgts (gn os) os.length c)
theorem atF_succ (os : List Int) (k : Nat) : atF os (k + 1) = atF os k ++ tstA os (dgts (gn os) os.length k) := by
  unfold atF
  rw [List.range_succ, List.flatMap_append]
  simp
theorem atF_len (os : List Int) : ∀ k, (atF os k).length ≤ k
  | 0 => by simp [atF]
  | k + 1 => by
    rw [atF_succ, List.length_append]
    have := atF_len os k
    have := tstA_len os (dgts (gn os) os.length k)
    omega
theorem atF_all {os : List Int} (h : 0 < gn os) : atF os (gn os ^ os.length) = autL os := by
  unfold autL
  rw [auGo_eq os h]
  rfl
theorem fineB_take {os im : List Int} {k : Nat} (hk : k < os.length) : ((List.range (k + 1)).all fun i => gmul os (elt im i) (elt os i) == 0) = (((List.range k).all fun i => gmul os (elt im i) (elt os i) == 0) && (gmul os (elt im k) (elt os k) == 0)) := by
  rw [List.range_succ, List.all_append]
  simp
theorem getD_app {F : List (List Int)} {f : List Int} {i : Nat} (h : i < F.length) : (F ++ [f]).getD i [] = F.getD i [] := by
  rw [List.getD_eq_getElem?_getD, List.getD_eq_getElem?_getD, List.getElem?_append_left h]
theorem getD_app' {F : List (List Int)} {f : List Int} : (F ++ [f]).getD F.length [] = f := by
  simp [List.getD_eq_getElem?_getD]

set_option maxRecDepth 20000 in
set_option maxHeartbeats 6400000 in
theorem ats_spec (a0 : Option Addr) (c0 : Nat) (os : List Int) (w : World) (h0 : Ints w a0 c0 os) (hl : os.length ≤ 2000000) :
    Calls Try.prog 9 #[.agg #[.slice a0 os.length c0]] w (GaveR w (atL os) (atB os)) := by
  have hb0 := (Below.refl w.heap.size w).alloc (Nat.le_refl _) (.cells #[.slice a0 os.length c0] 26)
  have h1 := h0.below hb0 (Nat.le_refl _)
  have hM := OwnR.made (w := (w.alloc (.cells #[.slice a0 os.length c0] 26))) (B := w.heap.size + 1) (g := w.heap.size + 1) (by simp) (Nat.le_refl _) (fun i => ([] : List (List Int)).getD i [])
  have hB := (Below.refl (w.heap.size + 1) (w.alloc (.cells #[.slice a0 os.length c0] 26))).alloc (by simp) (.cells #[] 24)
  have h2 := h1.below hB (by simp)
  have q2 : ((w.alloc (.cells #[.slice a0 os.length c0] 26)).alloc (.cells #[] 24)).cell? ⟨w.heap.size, 0, none⟩ = some (.slice a0 os.length c0) := by simp [go_sem]
  have hsz2 : w.heap.size + 1 ≤ ((w.alloc (.cells #[.slice a0 os.length c0] 26)).alloc (.cells #[] 24)).heap.size := by simp
  have CG := Lib.hid (fun w h => isGroup_spec a0 c0 os w h hl)
  obtain ⟨W2, hW2⟩ : ∃ W, W = (w.alloc (.cells #[.slice a0 os.length c0] 26)).alloc (.cells #[] 24) := ⟨_, rfl⟩
  have HW := Lib.hid hW2
  rw [← hW2] at hM hB h2 q2 hsz2
  cases hg : grpB os with
  | false =>
    have e1 : atB os = false := by simp [atB, hg]
    have e2 : atL os = [] := by simp [atL, e1]
    rw [e1, e2]
    rw [hg] at CG
    clear hg e1 e2
    go_enter Try.func9, Try.ntmps9
    go_wp2_with fail
    rw [← HW.out]
    refine (CG.out _ h2).mono ?_; rintro e w3 ⟨rfl, b3⟩
    have hb3 := hB.trans (b3.mono hsz2)
    have hM3 := hM.below b3 (Nat.le_refl _)
    go_wp2_with fail
    go_ret2
    exact ⟨_, _, _, rfl, hM3.mono (by omega), hb0.trans (hb3.mono (by omega))⟩
  | true =>
    rw [hg] at CG
    obtain ⟨g2, g3, g4, g5, g6⟩ := grp_gn hg
    have CO := Lib.hid (fun w h => l2Order_any a0 c0 os w h hg)
    rw [← g5] at CO
    by_cases h9 : gn os ≤ 9
    · have e1 : atB os = true := by simp [atB, hg, h9]
      have e2 : atL os = autL os := by simp [atL, e1]
      rw [e1, e2]
      have hl3 := (grp_parts hg).1
      have CM := Lib.hid (fun x n w h hx hn => multipleOf_any a0 c0 os x n w h hl hg hx hn)
      have CE := Lib.hid (fun a1 c1 (im : List Int) w h k e hm => l27Extend_any a0 c0 os a1 c1 im w h k hl hg e hm)
      have CA := Lib.hid (fun a1 c1 (f : List Int) w h k hlf => aut_spec a0 c0 os a1 c1 f w h k hl hlf)
      have HDL := Lib.hid (fun k => dgts_len (gn os) os.length k)
      have HDB := Lib.hid (fun k => dgts_lt (N := gn os) (by omega) os.length k)
      have HDS := Lib.hid (fun i k => dgts_low (gn os) i k)
      have HEL := Lib.hid (fun im => extL_len os im)
      have HF0 : Hid (atF os 0 = []) := Lib.hid (by simp [atF])
      have HFN : Hid (atF os (gn os ^ os.length) = autL os) := Lib.hid (atF_all (by omega))
      have HFL := Lib.hid (atF_len os)
      have HFS : Hid (∀ k, autB os (extL os (dgts (gn os) os.length k)) = true → atF os (k + 1) = atF os k ++ [extL os (dgts (gn os) os.length k)]) := Lib.hid (fun k h => by rw [atF_succ, tstA, if_pos h])
      have HFF : Hid (∀ k, autB os (extL os (dgts (gn os) os.length k)) = false → atF os (k + 1) = atF os k) := Lib.hid (fun k h => by rw [atF_succ, tstA, if_neg (by rw [h]; decide), List.append_nil])
      have HAF : Hid (∀ k, fineB os (dgts (gn os) os.length k) = false → autB os (extL os (dgts (gn os) os.length k)) = false) := Lib.hid (fun k h => by
        cases hA : autB os (extL os (dgts (gn os) os.length k)) with
        | false => rfl
        | true =>
          rw [aut_fine hg (fun i hi => by
            have hi' : i < (dgts (gn os) os.length k).length := by rw [dgts_len]; exact hi
            have hm := dgts_lt (N := gn os) (by omega) os.length k
            have e := (elt_at hi' (fun x hx => by have := hm x hx; omega)).1
            have := hm _ (List.getElem_mem hi')
            rw [e] at this
            omega) hA] at h
          exact h)
      have HPW : Hid (∀ i, i ≤ os.length → gn os ^ i ≤ 729) := Lib.hid (fun i hi => by
        have h1 : gn os ^ i ≤ 9 ^ i := Nat.pow_le_pow_left h9 i
        have h2 : (9 : Nat) ^ i ≤ 9 ^ 3 := Nat.pow_le_pow_right (by decide) (by omega)
        omega)
      have HO := Lib.hid (fun i (hi : i < os.length) => (show ∃ y : Nat, os[i] = (y : Int) ∧ y = elt os i ∧ y ≤ 100 from by
        obtain ⟨n1, n2⟩ := ordsIn_at g2 hi
        exact ⟨os[i].toNat, by omega, by simp [elt, List.getD, hi], by omega⟩))
      obtain ⟨cnt, hcnt⟩ : ∃ c, c = gn os ^ os.length := ⟨_, rfl⟩
      have hc9 := HPW.out _ (Nat.le_refl _)
      rw [← hcnt] at HFN hc9
      have HCNT := Lib.hid hcnt
      have g1 : 1 ≤ gn os := by omega
      obtain ⟨n, hn⟩ : ∃ n, n = gn os := ⟨_, rfl⟩
      have HN := Lib.hid hn
      rw [← hn] at CO CM CE HDL HDB HDS HFS HFF HAF HPW HEL HCNT h9 g1
      have hwn : IntKind.i64.wrap (n : Int) = n := wrap_in (by omega) (by omega)
      have hn9 : ¬ (n : Int) > 9 := by omega
      have hn0 : ¬ n = 0 := by omega
      have HC := Lib.hid h2.2.2.2.2
      have HM := Lib.hid hM
      have HB := Lib.hid hB
      clear hg e1 e2 g2 g3 g4 g5 g6 hcnt hn hM hB
      go_enter Try.func9, Try.ntmps9
      go_wp2_with fail
      rw [← HW.out]
      refine (CG.out _ h2).mono ?_; rintro e w3 ⟨rfl, b3⟩
      have q3 := (b3.cell (p := ⟨w.heap.size, 0, none⟩) (by show w.heap.size < W2.heap.size; omega)).trans q2
      have hb3 := HB.out.trans (b3.mono hsz2)
      have hM3 := HM.out.below b3 (Nat.le_refl _)
      have h3 := h2.below b3 (Nat.le_refl _)
      have hsz3 := Nat.le_trans hsz2 b3.size
      clear b3 q2 h2 HB HM hsz2
      go_wp2_with fail
      refine (CO.out _ h3).mono ?_; rintro e w4 ⟨rfl, b4⟩
      have q4 := (b4.cell (p := ⟨w.heap.size, 0, none⟩) (by show w.heap.size < w3.heap.size; omega)).trans q3
      have hb4 := hb3.trans (b4.mono hsz3)
      have hM4 := hM3.below b4 (Nat.le_refl _)
      have h4 := h3.below b4 (Nat.le_refl _)
      have hsz4 := Nat.le_trans hsz3 b4.size
      clear b4 q3 h3 hb3 hM3 hsz3
      go_wp2_with fail
      refine (CO.out _ h4).mono ?_; rintro e w5 ⟨rfl, b5⟩
      have q5 := (b5.cell (p := ⟨w.heap.size, 0, none⟩) (by show w.heap.size < w4.heap.size; omega)).trans q4
      have hb5 := hb4.trans (b5.mono hsz4)
      have hM5 := hM4.below b5 (Nat.le_refl _)
      have h5 := h4.below b5 (Nat.le_refl _)
      have hsz5 := Nat.le_trans hsz4 b5.size
      clear b5 q4 h4 hb4 hM4 hsz4
      go_wp2_with fail
      go_loop [6, 7] (fun vq vi => ∃ (i q : Nat), i ≤ os.length ∧ vi = .int .i64 (i : Int) ∧ vq = .int .i64 (q : Int) ∧ Hid (q = n ^ i)) (fun _ i => os.length - (intOf i).toNat)
      case atStart => exact ⟨0, 1, by omega, rfl, rfl, Lib.hid rfl⟩
      case round =>
        obtain ⟨i, q, hi, rfl, rfl, HQ⟩ := hrel
        by_cases hil : i < os.length
        · have hq := HQ.out
          have hst : q * n = n ^ (i + 1) := by rw [hq, Nat.pow_succ]
          have hq9 := HPW.out (i + 1) hil
          rw [← hst] at hq9
          obtain ⟨Q, hQ⟩ : ∃ Q, Q = q * n := ⟨_, rfl⟩
          have e5 : (q : Int) * (n : Int) = (Q : Int) := by rw [hQ]; simp
          have hwq : IntKind.i64.wrap ((q : Int) * (n : Int)) = (Q : Int) := by rw [e5]; exact wrap_in (by omega) (by omega)
          rw [← hQ] at hst hq9
          have HST := Lib.hid hst
          have hil2 : (i : Int) < os.length := by omega
          clear hq hst hQ
          go_wp2_with fail
          go_round
          case rel => exact ⟨i + 1, Q, by omega, by go_num, by first | rfl | (simp [hwq]; done) | go_num, HST⟩
          case measure => simp [intOf]; omega
        · obtain rfl : i = os.length := by omega
          have hq := HQ.out
          rw [← HCNT.out] at hq
          subst hq
          clear HQ HPW HCNT
          go_wp2_with fail
          go_loopw [4, 8] (fun vo vk wr => ∃ (k : Nat) (G : List (List Int)) (ad : Option Addr) (c : Nat) (vs : List Value), k ≤ q ∧ vk = .int .i64 (k : Int) ∧ vo = .slice ad G.length c ∧ Hid (G = atF os k) ∧ G.length ≤ k ∧ OwnR wr (w.heap.size + 1) ad c G.length (fun i => G.getD i []) vs ∧ Below (w.heap.size + 1) (w.alloc (.cells #[.slice a0 os.length c0] 26)) wr ∧ w.heap.size + 1 ≤ wr.heap.size) (fun _ i _ => q - (intOf i).toNat)
          case atStart => exact ⟨0, [], _, _, _, by omega, rfl, rfl, Lib.hid HF0.out.symm, by simp, hM5, hb5, hsz5⟩
          case round =>
            clear hM5 hb5 hsz5 q5 h5
            obtain ⟨k, G, ad, c, vs, hk, rfl, rfl, HG, hGk, ho, hbel, hsz⟩ := hrel
            by_cases hkq : k < q
            · obtain ⟨wa, hwa⟩ : ∃ W, W = wr := ⟨_, rfl⟩
              subst hwa
              have q3 : wa.cell? ⟨w.heap.size, 0, none⟩ = some (.slice a0 os.length c0) := by rw [hbel.cell (p := ⟨w.heap.size, 0, none⟩) (by simp)]; simp [go_sem]
              have h3 := h1.below hbel (by simp)
              have hkq2 : (k : Int) < q := by omega
              have HM1 := Lib.hid (OwnI.made wa wa.heap.size (Nat.le_refl _))
              have HB1 := Lib.hid ((Below.refl wa.heap.size wa).alloc (Nat.le_refl _) (.cells #[] 3))
              go_wp2_with fail
              go_loopw [9, 10, 11] (fun vm vx vi wr => ∃ (i X : Nat) (ls : List Int) (ad : Option Addr) (c : Nat), i ≤ os.length ∧ vi = .int .i64 (i : Int) ∧ vx = .int .i64 (X : Int) ∧ vm = .slice ad ls.length c ∧ Hid (X = k / n ^ i) ∧ X ≤ k ∧ Hid (ls = dgts n i k) ∧ ls.length ≤ i ∧ OwnI wr wa.heap.size ad c ls ∧ Below wa.heap.size wa wr) (fun _ _ i _ => os.length - (intOf i).toNat)
              case atStart => exact ⟨0, k, [], _, _, by omega, rfl, rfl, rfl, Lib.hid (by simp), by omega, Lib.hid rfl, by simp, HM1.out, HB1.out⟩
              case round =>
                clear HM1 HB1
                obtain ⟨i, X, ls, al, cl, hi, rfl, rfl, rfl, HX, hXk, HLS, hll, ol, hbi⟩ := hrel
                have q6 := (hbi.cell (p := ⟨w.heap.size, 0, none⟩) (by show w.heap.size < wa.heap.size; omega)).trans q3
                by_cases hil : i < os.length
                · have hst := HDS.out i k
                  rw [← HX.out, ← HLS.out] at hst
                  have hx2 : X / n = k / n ^ (i + 1) := by rw [HX.out, Nat.div_div_eq_div_mul, Nat.pow_succ]
                  have m1 : X % n < n := Nat.mod_lt _ (by omega)
                  have m2 : X / n ≤ X := Nat.div_le_self _ _
                  have e3 : (X : Int) % (n : Int) = ((X % n : Nat) : Int) := rfl
                  have e5 : (X : Int) / (n : Int) = ((X / n : Nat) : Int) := rfl
                  obtain ⟨A, hA⟩ : ∃ A, A = X % n := ⟨_, rfl⟩
                  obtain ⟨X', hX'⟩ : ∃ Y, Y = X / n := ⟨_, rfl⟩
                  rw [← hA] at hst m1 e3
                  rw [← hX'] at hx2 m2 e5
                  have HST := Lib.hid hst.symm
                  have HX2 := Lib.hid hx2
                  have hil2 : (i : Int) < os.length := by omega
                  have hmA := OwnI.made1 (w := wr) (B := wa.heap.size) (g := wr.heap.size) (x := (A : Int)) rfl hbi.size (wf_of (by omega) (by omega))
                  have hly := (ol.alloc (.cells #[.int .i64 (A : Int)] 3)).ints
                  have hbA := hbi.alloc hbi.size (.cells #[.int .i64 (A : Int)] 3)
                  have hszA : wa.heap.size ≤ (wr.alloc (.cells #[.int .i64 (A : Int)] 3)).heap.size := by have := hbi.size; simp; omega
                  have hl1 : [(A : Int)].length ≤ 2000000 := by simp
                  have hl2 : ls.length ≤ 2000000 := by omega
                  clear hst hx2 hA hX' ol
                  go_wp2_with (at_builtin; refine wpList_appAll rfl _ _ rfl wa.heap.size _ _ [(A : Int)] _ _ ls rfl rfl hmA hly hl1 hl2 hszA ?_)
                  intro a' c' w7 o7 hgr
                  have hb7 := hgr _ hbA
                  clear hgr hmA hly hbA hszA
                  go_wp2_with fail
                  go_roundw
                  case rel => exact ⟨i + 1, X', (A : Int) :: ls, a', c', by omega, by go_num, by first | rfl | go_num, by simp [Nat.add_comm], HX2, by omega, HST, by simp; omega, o7, hb7⟩
                  case measure => simp [intOf]; omega
                · obtain rfl : i = os.length := by omega
                  obtain ⟨wb, hwb⟩ : ∃ W, W = wr := ⟨_, rfl⟩
                  subst hwb
                  have hlen := HDL.out k
                  have hmem := HDB.out k
                  have hfs := HFS.out k
                  have hff := HFF.out k
                  have haf := HAF.out k
                  rw [← HLS.out] at hlen hmem hfs hff haf
                  have HLEN := Lib.hid hlen
                  have HMEM := Lib.hid hmem
                  have HS1 := Lib.hid hfs
                  have HF1 := Lib.hid hff
                  have HA1 := Lib.hid haf
                  have ho6 := ho.below hbi (Nat.le_refl _)
                  have hb6 := hbel.trans (hbi.mono hsz)
                  have hsz6 := Nat.le_trans hsz hbi.size
                  have h6 := h3.below hbi (Nat.le_refl _)
                  have hoi := ol.ints
                  have HCL := Lib.hid hoi.2.2.2.2
                  have HCO := Lib.hid h6.2.2.2.2
                  clear HX hXk hlen hmem hfs hff haf ol ho hbel hsz h3 hbi q3 HLS HDL HDB HDS HFS HFF HAF
                  go_wp2_with fail
                  go_loopw [12, 13] (fun vf vi wr => ∃ (i : Nat) (b : Bool), i ≤ ls.length ∧ vi = .int .i64 (i : Int) ∧ vf = .bool b ∧ Hid (b = (List.range i).all fun i => gmul os (elt ls i) (elt os i) == 0) ∧ Below wb.heap.size wb wr) (fun _ i _ => ls.length - (intOf i).toNat)
                  case atStart => exact ⟨0, true, by omega, rfl, rfl, Lib.hid rfl, Below.refl _ _⟩
                  case round =>
                    obtain ⟨i, bb, hi, rfl, rfl, HBB, hbp⟩ := hrel
                    have q7 := (hbp.cell (p := ⟨w.heap.size, 0, none⟩) (by show w.heap.size < wb.heap.size; omega)).trans q6
                    by_cases hil : i < ls.length
                    · have hio : i < os.length := by have := HLEN.out; omega
                      have hil2 : (i : Int) < ls.length := by omega
                      have hio2 : (i : Int) < os.length := by omega
                      have hst := fineB_take (os := os) (im := ls) hio
                      rw [← HBB.out] at hst
                      cases bb with
                      | false =>
                        have HST := Lib.hid hst
                        clear hst
                        go_wp2_with fail
                        refine wp_region_held_drew (S := fun w' => w'.cell? ⟨w.heap.size, 0, none⟩ = some (.slice a0 os.length c0)) (by kernel_rfl) q7 (fun hHeld => ?_)
                        refine wpAnyH_take (i := 0) (v := ?_) rfl (by kernel_rfl) (by kernel_rfl) (by kernel_rfl) (fun _ _ _ h => h) (Or.inl ⟨by first | kernel_rfl | rfl, ?_⟩) (by assumption) ?_
                        rotate_left
                        · intro w hSw
                          (try dsimp only at hSw)
                          (try go_split_ands)
                          go_simp
                          try with_reducible rfl
                        (try simp only [Act.put, List.setIfInBounds_toArray, List.set_cons_zero, List.set_cons_succ])
                        refine wpAnyH_take (i := 1) (v := ?_) rfl (by kernel_rfl) (by kernel_rfl) (by kernel_rfl) (fun _ _ _ h => h) (Or.inl ⟨by first | kernel_rfl | rfl, ?_⟩) (by assumption) ?_
                        rotate_left
                        · intro w hSw
                          (try dsimp only at hSw)
                          (try go_split_ands)
                          go_simp
                          try with_reducible rfl
                        (try simp only [Act.put, List.setIfInBounds_toArray, List.set_cons_zero, List.set_cons_succ])
                        refine wpAnyH_take (i := 2) (v := undef) rfl (by kernel_rfl) (by kernel_rfl) (by kernel_rfl) (fun _ _ _ h => h) (Or.inr ⟨by kernel_rfl, rfl⟩) (by assumption) ?_
                        (try simp only [Act.put, List.setIfInBounds_toArray, List.set_cons_zero, List.set_cons_succ])
                        refine wpAnyH_take (i := 3) (v := undef) rfl (by kernel_rfl) (by kernel_rfl) (by kernel_rfl) (fun _ _ _ h => h) (Or.inr ⟨by kernel_rfl, rfl⟩) (by assumption) ?_
                        (try simp only [Act.put, List.setIfInBounds_toArray, List.set_cons_zero, List.set_cons_succ])
                        refine wpAnyH_take (i := 4) (v := undef) rfl (by kernel_rfl) (by kernel_rfl) (by kernel_rfl) (fun _ _ _ h => h) (Or.inr ⟨by kernel_rfl, rfl⟩) (by assumption) ?_
                        (try simp only [Act.put, List.setIfInBounds_toArray, List.set_cons_zero, List.set_cons_succ])
                        refine wpAnyH_take (i := 5) (v := undef) rfl (by kernel_rfl) (by kernel_rfl) (by kernel_rfl) (fun _ _ _ h => h) (Or.inr ⟨by kernel_rfl, rfl⟩) (by assumption) ?_
                        (try simp only [Act.put, List.setIfInBounds_toArray, List.set_cons_zero, List.set_cons_succ])
                        refine wpAnyH_take (i := 6) (v := undef) rfl (by kernel_rfl) (by kernel_rfl) (by kernel_rfl) (fun _ _ _ h => h) (Or.inr ⟨by kernel_rfl, rfl⟩) (by assumption) ?_
                        (try simp only [Act.put, List.setIfInBounds_toArray, List.set_cons_zero, List.set_cons_succ])
                        refine wpAnyH_take (i := 7) (v := undef) rfl (by kernel_rfl) (by kernel_rfl) (by kernel_rfl) (fun _ _ _ h => h) (Or.inr ⟨by kernel_rfl, rfl⟩) (by assumption) ?_
                        (try simp only [Act.put, List.setIfInBounds_toArray, List.set_cons_zero, List.set_cons_succ])
                        refine wpAnyH_take (i := 8) (v := undef) rfl (by kernel_rfl) (by kernel_rfl) (by kernel_rfl) (fun _ _ _ h => h) (Or.inr ⟨by kernel_rfl, rfl⟩) (by assumption) ?_
                        (try simp only [Act.put, List.setIfInBounds_toArray, List.set_cons_zero, List.set_cons_succ])
                        refine wpAnyH_take (i := 9) (v := undef) rfl (by kernel_rfl) (by kernel_rfl) (by kernel_rfl) (fun _ _ _ h => h) (Or.inr ⟨by kernel_rfl, rfl⟩) (by assumption) ?_
                        (try simp only [Act.put, List.setIfInBounds_toArray, List.set_cons_zero, List.set_cons_succ])
                        refine wpAnyH_take (i := 10) (v := undef) rfl (by kernel_rfl) (by kernel_rfl) (by kernel_rfl) (fun _ _ _ h => h) (Or.inr ⟨by kernel_rfl, rfl⟩) (by assumption) ?_
                        (try simp only [Act.put, List.setIfInBounds_toArray, List.set_cons_zero, List.set_cons_succ])
                        refine wpAnyH_take (i := 11) (v := undef) rfl (by kernel_rfl) (by kernel_rfl) (by kernel_rfl) (fun _ _ _ h => h) (Or.inr ⟨by kernel_rfl, rfl⟩) (by assumption) ?_
                        (try simp only [Act.put, List.setIfInBounds_toArray, List.set_cons_zero, List.set_cons_succ])
                        refine wpAnyH_take (i := 12) (v := undef) rfl (by kernel_rfl) (by kernel_rfl) (by kernel_rfl) (fun _ _ _ h => h) (Or.inr ⟨by kernel_rfl, rfl⟩) (by assumption) ?_
                        (try simp only [Act.put, List.setIfInBounds_toArray, List.set_cons_zero, List.set_cons_succ])
                        refine wpAnyH_take (i := 13) (v := undef) rfl (by kernel_rfl) (by kernel_rfl) (by kernel_rfl) (fun _ _ _ h => h) (Or.inr ⟨by kernel_rfl, rfl⟩) (by assumption) ?_
                        (try simp only [Act.put, List.setIfInBounds_toArray, List.set_cons_zero, List.set_cons_succ])
                        refine wpAnyH_take (i := 14) (v := ?_) rfl (by kernel_rfl) (by kernel_rfl) (by kernel_rfl) (fun _ _ _ h => h) (Or.inl ⟨by first | kernel_rfl | rfl, ?_⟩) (by assumption) ?_
                        rotate_left
                        · intro w hSw
                          (try dsimp only at hSw)
                          (try go_split_ands)
                          go_simp
                          try with_reducible rfl
                        (try simp only [Act.put, List.setIfInBounds_toArray, List.set_cons_zero, List.set_cons_succ])
                        refine wpAnyH_ready (rs := [15]) (by kernel_rfl) (by simp) ?_
                        refine AllReadyH.cons rfl (fun K hK => ?_) AllReadyH.nil
                        go_simp
                        refine hK.out _ _ (by assumption) (fun hHeld => ?_)
                        clear hK K
                        (try simp only [Act.put, List.setIfInBounds_toArray, List.set_cons_zero, List.set_cons_succ])
                        refine wpAnyH_done (by kernel_rfl) ?_ _
                        go_wp2_with fail
                        go_roundw
                        case rel => exact ⟨i + 1, false, by omega, by go_num, rfl, Lib.hid (by rw [HST.out]; rfl), hbp.drew⟩
                        case measure => simp [intOf]; omega
                      | true =>
                        rcases HCL.out with hcs | ⟨b', off', rfl, hbB', hcell'⟩
                        · subst hcs; simp at hil
                        rcases HCO.out with hcs | ⟨b, off, rfl, hbB, hcell⟩
                        · subst hcs; simp at hio
                        obtain ⟨p, e1, e2, e3⟩ := HO.out i hio
                        have e4 := (elt_at hil (fun x hx => by have := HMEM.out x hx; omega)).1
                        have e5 := HMEM.out _ (List.getElem_mem hil)
                        have d1 := (hbp.cell (p := ⟨b, off + i, none⟩) hbB).trans (hcell i hio)
                        have d2 := (hbp.cell (p := ⟨b', off' + i, none⟩) hbB').trans (hcell' i hil)
                        rw [e1] at d1
                        rw [e4] at d2 e5
                        rw [← e2] at hst
                        obtain ⟨x, hx⟩ : ∃ x, x = elt ls i := ⟨_, rfl⟩
                        rw [← hx] at d2 e5 hst
                        have CM1 := Lib.hid (fun w h => CM.out x p w h (by omega) e3)
                        obtain ⟨t, ht⟩ : ∃ t, t = gmul os x p := ⟨_, rfl⟩
                        rw [← ht] at hst CM1
                        have h7 := h6.below hbp (Nat.le_refl _)
                        have zw : w.heap.size < wr.heap.size := by have := hbp.size; omega
                        have zb : b < wr.heap.size := by have := hbp.size; omega
                        have zb' : b' < wr.heap.size := by have := hbp.size; omega
                        by_cases htz : t = 0
                        · subst htz
                          have HST := Lib.hid hst
                          clear hst e1 e2 e4 hcell hcell' hx ht hbB hbB'
                          go_wp2_with fail
                          go_region_held3 (fun w' => w'.cell? ⟨w.heap.size, 0, none⟩ = some (.slice (some ⟨b, off, none⟩) os.length c0) ∧ w'.cell? ⟨b', off' + i, none⟩ = some (.int .i64 (x : Int)) ∧ w'.cell? ⟨b, off + i, none⟩ = some (.int .i64 (p : Int))) (exact ⟨by assumption, by assumption, by assumption⟩) (first
                            | (go_at_call 83; refine (CM1.out _ h7.drew).mono ?_; rintro e w7 ⟨rfl, b7⟩; have p1 := (b7.cell (p := ⟨b, off + i, none⟩) zb).trans d1; have p2 := (b7.cell (p := ⟨b', off' + i, none⟩) zb').trans d2; have p3 := (b7.cell (p := ⟨w.heap.size, 0, none⟩) zw).trans q7))
                          go_wp2_with fail
                          go_roundw
                          case rel => exact ⟨i + 1, true, by omega, by go_num, by first | rfl | simp, Lib.hid (by rw [HST.out]; rfl), nx hbp (below_undrew b7)⟩
                          case measure => simp [intOf]; omega
                        · have hbq : ((t : Int) == 0) = false := by simp; omega
                          have hbn : (t == 0) = false := by simp; omega
                          rw [hbn] at hst
                          have HST := Lib.hid hst
                          clear hst e1 e2 e4 hcell hcell' hx ht hbB hbB' hbn
                          go_wp2_with fail
                          go_region_held3 (fun w' => w'.cell? ⟨w.heap.size, 0, none⟩ = some (.slice (some ⟨b, off, none⟩) os.length c0) ∧ w'.cell? ⟨b', off' + i, none⟩ = some (.int .i64 (x : Int)) ∧ w'.cell? ⟨b, off + i, none⟩ = some (.int .i64 (p : Int))) (exact ⟨by assumption, by assumption, by assumption⟩) (first
                            | (go_at_call 83; refine (CM1.out _ h7.drew).mono ?_; rintro e w7 ⟨rfl, b7⟩; have p1 := (b7.cell (p := ⟨b, off + i, none⟩) zb).trans d1; have p2 := (b7.cell (p := ⟨b', off' + i, none⟩) zb').trans d2; have p3 := (b7.cell (p := ⟨w.heap.size, 0, none⟩) zw).trans q7))
                          go_wp2_with fail
                          go_roundw
                          case rel => exact ⟨i + 1, false, by omega, by go_num, by first | rfl | simp, Lib.hid (by rw [HST.out]; rfl), nx hbp (below_undrew b7)⟩
                          case measure => simp [intOf]; omega
                    · obtain rfl : i = ls.length := by omega
                      have hfin : bb = fineB os ls := by rw [HBB.out]; unfold fineB; rw [HLEN.out]
                      have h7 := h6.below hbp (Nat.le_refl _)
                      have hoi7 := hoi.below hbp (Nat.le_refl _)
                      have ho7 := ho6.below hbp (Nat.le_refl _)
                      have hb7 := hb6.trans (hbp.mono hsz6)
                      have hsz7 := Nat.le_trans hsz6 hbp.size
                      clear HBB hbp h6 hoi ho6 hb6 hsz6 q6 HCL HCO
                      cases bb with
                      | false =>
                        have hn1 := HF1.out (HA1.out hfin.symm)
                        rw [← HG.out] at hn1
                        have HN1 := Lib.hid hn1.symm
                        clear hfin hn1 HS1 HF1 HA1
                        go_wp2_with fail
                        go_roundw
                        case rel => exact ⟨k + 1, G, _, _, _, by omega, by go_num, rfl, HN1, by omega, ho7, hb7, hsz7⟩
                        case measure => simp [intOf]; omega
                      | true =>
                        have CE1 := Lib.hid (fun w h k => CE.out al cl ls w h k HLEN.out HMEM.out)
                        have hel := HEL.out ls
                        clear hfin HA1
                        obtain ⟨f, hf⟩ : ∃ f, f = extL os ls := ⟨_, rfl⟩
                        have hs1 := HS1.out
                        have hf1 := HF1.out
                        rw [← hf] at hs1 hf1 hel CE1
                        rw [← HG.out] at hs1 hf1
                        have HS2 := Lib.hid hs1
                        have HF2 := Lib.hid hf1
                        have hfl : f.length ≤ 24 := by omega
                        clear hs1 hf1 hf hel HS1 HF1
                        go_wp2_with fail
                        refine (CE1.out _ h7 hoi7).mono ?_; rintro e w8 ⟨af, cf, rfl, of, b8⟩
                        have q8 := (b8.cell (p := ⟨w.heap.size, 0, none⟩) (by show w.heap.size < wr.heap.size; omega)).trans q7
                        have h8 := h7.below b8 (Nat.le_refl _)
                        have ho8 := ho7.below b8 (Nat.le_refl _)
                        have hb8 := hb7.trans (b8.mono hsz7)
                        have hsz8 := Nat.le_trans hsz7 b8.size
                        have CA1 := Lib.hid (fun w h k => CA.out af cf f w h k (by omega))
                        have hfo8 : ∀ y, af = some y → (Value.slice ad G.length c).ownBlock ≠ some y.block := fun y hy hc => by
                          have h1 := (ho7.outLt _ hc).2
                          have h2 := (of.lt y hy).1
                          omega
                        have hfr8 : ∀ y, af = some y → ∀ (i : Nat) v, vs[i]? = some v → v.ownBlock ≠ some y.block := fun y hy i v hv hc => by
                          have h1 := (ho7.rowLt i v _ hv hc).2
                          have h2 := (of.lt y hy).1
                          omega
                        have of8 := of.mono hsz7
                        have ofi := of.ints
                        have HFO := Lib.hid hfo8
                        have HFR := Lib.hid hfr8
                        clear b8 h7 ho7 hb7 hsz7 q7 hoi7 hfo8 hfr8 of
                        cases hA : autB os f with
                        | false =>
                          rw [hA] at CA1
                          have HN1 := Lib.hid (HF2.out hA).symm
                          clear hA HS2 HF2 HFO HFR of8
                          go_wp2_with fail
                          refine (CA1.out _ h8 ofi).mono ?_; rintro e w9 ⟨rfl, b9⟩
                          have ho9 := ho8.below b9 (Nat.le_refl _)
                          have hb9 := hb8.trans (b9.mono hsz8)
                          have hsz9 := Nat.le_trans hsz8 b9.size
                          go_wp2_with fail
                          go_roundw
                          case rel => exact ⟨k + 1, G, _, _, _, by omega, by go_num, rfl, HN1, by omega, ho9, hb9, hsz9⟩
                          case measure => simp [intOf]; omega
                        | true =>
                          rw [hA] at CA1
                          have HN1 := Lib.hid (HS2.out hA).symm
                          clear hA HS2 HF2
                          go_wp2_with fail
                          refine (CA1.out _ h8 ofi).mono ?_; rintro e w9 ⟨rfl, b9⟩
                          have ho9 := ho8.below b9 (Nat.le_refl _)
                          have of9 := of8.below b9 (Nat.le_refl _)
                          have hb9 := hb8.trans (b9.mono hsz8)
                          have hsz9 := Nat.le_trans hsz8 b9.size
                          have hGl : G.length ≤ 1000000 := by omega
                          have HR1 : Hid (∀ i, i < G.length → (fun i => (G ++ [f]).getD i []) i = (fun i => G.getD i []) i) := Lib.hid (fun i hi => getD_app hi)
                          have HR2 : Hid ((fun i => (G ++ [f]).getD i []) G.length = f) := Lib.hid getD_app'
                          clear b9 ho8 of8 hb8 hsz8 h8 ofi
                          go_wp2_with (at_builtin; refine wpList_appS rfl _ _ rfl (w.heap.size + 1) _ _ G.length (fun i => G.getD i []) (fun i => (G ++ [f]).getD i []) vs af cf f rfl rfl ho9 of9 HFO.out HFR.out HR1.out HR2.out hGl hsz9 ?_)
                          intro a' c' w10 o10 hgr
                          have hb10 := hgr _ hb9
                          have hg10 := hgr _ (Below.refl _ _)
                          have hsz10 := Nat.le_trans hsz9 hg10.size
                          have hGl2 : (G ++ [f]).length = G.length + 1 := by simp
                          have o11 : OwnR w10 (w.heap.size + 1) a' c' (G ++ [f]).length (fun i => (G ++ [f]).getD i []) (vs ++ [.slice af f.length cf]) := by rw [hGl2]; exact o10
                          clear hgr hg10 hb9 ho9 of9 o10
                          go_wp2_with fail
                          go_roundw
                          case rel => exact ⟨k + 1, G ++ [f], a', c', _, by omega, by go_num, by rw [hGl2], HN1, by rw [hGl2]; omega, o11, hb10, hsz10⟩
                          case measure => simp [intOf]; omega
            · obtain rfl : k = q := by omega
              have e := HG.out
              rw [HFN.out] at e
              subst e
              clear HFN HG HFS HFF HAF HDL HDB HDS HFL
              go_wp2_with fail
              go_ret2
              exact ⟨_, _, _, rfl, ho.mono (by omega), hb0.trans (hbel.mono (by omega))⟩
    · have e1 : atB os = false := by simp [atB, h9]
      have e2 : atL os = [] := by simp [atL, e1]
      rw [e1, e2]
      have hn9 : (gn os : Int) > 9 := by omega
      obtain ⟨n, hn⟩ : ∃ n, n = gn os := ⟨_, rfl⟩
      rw [← hn] at CO hn9 g4
      have hwn : IntKind.i64.wrap (n : Int) = n := wrap_in (by omega) (by omega)
      clear hg e1 e2 h9 hn g2 g3 g5 g6
      go_enter Try.func9, Try.ntmps9
      go_wp2_with fail
      rw [← HW.out]
      refine (CG.out _ h2).mono ?_; rintro e w3 ⟨rfl, b3⟩
      have q3 := (b3.cell (p := ⟨w.heap.size, 0, none⟩) (by show w.heap.size < W2.heap.size; omega)).trans q2
      have hb3 := hB.trans (b3.mono hsz2)
      have hM3 := hM.below b3 (Nat.le_refl _)
      have h3 := h2.below b3 (Nat.le_refl _)
      have hsz3 := Nat.le_trans hsz2 b3.size
      go_wp2_with fail
      refine (CO.out _ h3).mono ?_; rintro e w4 ⟨rfl, b4⟩
      have hb4 := hb3.trans (b4.mono hsz3)
      have hM4 := hM3.below b4 (Nat.le_refl _)
      go_wp2_with fail
      go_ret2
      exact ⟨_, _, _, rfl, hM4.mono (by omega), hb0.trans (hb4.mono (by omega))⟩
end Go.Proofs.Ytokpgbpdmfibjaa
