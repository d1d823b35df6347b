/-
Contracts of both sides' IsZeroGrid. No condition.
-/
import Derived.Test.YtbidkjhgodkamaaZgp
import Derived.Test.YtbidkjhgodkamaaTab
import Derived.Deep.QuietTactic
import Derived.BigQuiet
namespace Go.Proofs.Ytbidkjhgodkamaa
open Go.RowKit Go.ChangeShapes
set_option linter.unusedVariables false

theorem Ints.lit1 {w : World} {g : Nat} (hg : g = w.heap.size) (x : Int) (hx : (Lit.int .i64 x).wf = true) : Ints (w.alloc (.cells #[.int .i64 x] 3)) (some ⟨g, 0, none⟩) 1 [x] := by
  subst hg
  refine ⟨by simp, by simp [maxLen], (fun h => by cases h), ?_, .inr ⟨w.heap.size, 0, rfl, by simp, ?_⟩⟩
  · intro n hn
    simp at hn
    subst hn; assumption
  · intro i hi
    match i, hi with
    | 0, _ => simp [go_sem]
theorem Ints.lit3 {w : World} {g : Nat} (hg : g = w.heap.size) (x y z : Int) (hx : (Lit.int .i64 x).wf = true) (hy : (Lit.int .i64 y).wf = true) (hz : (Lit.int .i64 z).wf = true) : Ints (w.alloc (.cells #[.int .i64 x, .int .i64 y, .int .i64 z] 3)) (some ⟨g, 0, none⟩) 3 [x, y, z] := by
  subst hg
  refine ⟨by simp, by simp [maxLen], (fun h => by cases h), ?_, .inr ⟨w.heap.size, 0, rfl, by simp, ?_⟩⟩
  · intro n hn
    simp at hn
    rcases hn with rfl | rfl | rfl <;> assumption
  · intro i hi
    match i, hi with
    | 0, _ => simp [go_sem]
    | 1, _ => simp [go_sem]
    | 2, _ => simp [go_sem]
theorem set_parts {p a : Int} (hp : prmB p = true) (h : setB [p] a = true) : ∃ m : Nat, a = (m : Int) ∧ m < 2 ^ p.toNat ∧ m < 16777216 := by
  obtain ⟨hg, m, rfl, hm⟩ := setB_parts h
  have h1 := prm_bd hp
  have e : setT [p] = 2 ^ p.toNat := by simp [setT, gord]
  rw [e] at hm
  refine ⟨m, rfl, hm, ?_⟩
  have := Nat.pow_le_pow_right (n := 2) (by decide) (show p.toNat ≤ 24 by omega)
  have e2 : (2 : Nat) ^ 24 = 16777216 := by decide
  omega

set_option maxRecDepth 20000 in
set_option maxHeartbeats 3200000 in
theorem zg_impl (p a b c : Int) (w : World) (hpw : (Lit.int .i64 p).wf = true) (haw : (Lit.int .i64 a).wf = true) (hbw : (Lit.int .i64 b).wf = true) (hcw : (Lit.int .i64 c).wf = true) :
    Calls Try.prog 128 #[.int .i64 p, .int .i64 a, .int .i64 b, .int .i64 c] w fun e w' => e = .returned (.bool (zgB p a b c)) ∧ Below w.heap.size w w' := by
  obtain ⟨r, hr⟩ : ∃ r, r = zgB p a b c := ⟨_, rfl⟩
  have HR := Lib.hid hr
  rw [← hr]
  clear hr
  obtain ⟨W1, hW1⟩ : ∃ W, W = (w.alloc (.cells #[.int .i64 p] 3)).alloc (.cells #[.slice (some ⟨w.heap.size, 0, none⟩) 1 1] 26) := ⟨_, rfl⟩
  have hI : Ints W1 (some ⟨w.heap.size, 0, none⟩) 1 [p] := by rw [hW1]; exact (Ints.lit1 rfl p hpw).alloc _
  have hB : Below w.heap.size w W1 := by rw [hW1]; exact ((Below.refl w.heap.size w).alloc (Nat.le_refl _) _).alloc (by simp) _
  have hsz : w.heap.size + 2 ≤ W1.heap.size := by rw [hW1]; simp
  have q1 : W1.cell? ⟨w.heap.size + 1, 0, none⟩ = some (.slice (some ⟨w.heap.size, 0, none⟩) 1 1) := by rw [hW1]; simp [go_sem]
  have HW := Lib.hid hW1
  clear hW1
  cases hp : prmB p with
  | false =>
    have e : r = false := by rw [HR.out]; simp [zgB, hp]
    subst e
    have HP := Lib.hid hp
    clear HR hp
    go_enter Try.func128, Try.ntmps128
    go_wp2_with fail
    rw [← HW.out]
    refine (isPrime_is p false HP.out _).mono ?_; rintro e w2 ⟨rfl, rfl⟩
    go_wp2_with fail
    go_ret
    exact ⟨rfl, hB⟩
  | true =>
    obtain ⟨hg, hgn⟩ := grp_prm hp
    have HP := Lib.hid hp
    have CS := Lib.hid (fun a1 c1 w' h k => areSets_any (some ⟨w.heap.size, 0, none⟩) 1 [p] a1 c1 [a, b, c] w' h k (by simp) (by simp))
    simp only [List.length_cons, List.length_nil, Nat.zero_add] at CS
    have hlit : Ints (W1.alloc (.cells #[.int .i64 a, .int .i64 b, .int .i64 c] 3)) (some ⟨W1.heap.size, 0, none⟩) 3 [a, b, c] := Ints.lit3 rfl a b c haw hbw hcw
    have has : asB [p] [a, b, c] = (setB [p] a && (setB [p] b && setB [p] c)) := by simp [asB, hg]
    rw [has] at CS
    have hB2 := hB.alloc hB.size (.cells #[.int .i64 a, .int .i64 b, .int .i64 c] 3)
    have hI2 := hI.alloc (.cells #[.int .i64 a, .int .i64 b, .int .i64 c] 3)
    have hz2 : w.heap.size + 1 < (W1.alloc (.cells #[.int .i64 a, .int .i64 b, .int .i64 c] 3)).heap.size := by simp; omega
    have q2 : (W1.alloc (.cells #[.int .i64 a, .int .i64 b, .int .i64 c] 3)).cell? ⟨w.heap.size + 1, 0, none⟩ = some (.slice (some ⟨w.heap.size, 0, none⟩) 1 1) := by rw [World.cell?_alloc_past _ _ _ (by omega)]; exact q1
    have CS1 := Lib.hid (CS.out _ _ _ hI2 hlit)
    cases hs : (setB [p] a && (setB [p] b && setB [p] c)) with
    | false =>
      have e : r = false := by
        rw [HR.out]
        unfold zgB
        rw [← Bool.and_assoc (setB [p] b), ← Bool.and_assoc (setB [p] a), hs]; simp
      subst e
      rw [hs] at CS1
      clear HR hp hs has CS hlit hg hgn
      go_enter Try.func128, Try.ntmps128
      go_wp2_with fail
      rw [← HW.out]
      refine (isPrime_is p true HP.out _).mono ?_; rintro e w2 ⟨rfl, rfl⟩
      go_wp2_with fail
      refine CS1.out.mono ?_; rintro e w3 ⟨rfl, b3⟩
      have hb3 := nxB hB2 b3 hB2.size
      go_wp2_with fail
      go_ret
      exact ⟨rfl, hb3⟩
    | true =>
      simp only [Bool.and_eq_true] at hs
      obtain ⟨sa, sb, sc⟩ := hs
      rw [sa, sb, sc] at CS1
      obtain ⟨A, rfl, hA, hA24⟩ := set_parts hp sa
      obtain ⟨B, rfl, hBB, hB24⟩ := set_parts hp sb
      obtain ⟨C, rfl, hC, hC24⟩ := set_parts hp sc
      have hsl := sumS_lt hg A B
      have hs24 : sumS [p] A B < 16777216 := by simpa using hsl
      have e : r = (minusS (sumS [p] A B) C == 0) := by rw [HR.out]; simp [zgB, hp, sa, sb, sc]
      have CM := Lib.hid (fun w' h => sum_any (some ⟨w.heap.size, 0, none⟩) 1 [p] A B w' h hg (by omega) (by omega))
      simp only [List.length_cons, List.length_nil, Nat.zero_add] at CM
      have han : bits .andNot .i64 (sumS [p] A B : Int) (C : Int) = (minusS (sumS [p] A B) C : Int) := andNot_nat _ _ (by omega) (by omega)
      have hmz : ((minusS (sumS [p] A B) C : Int) == 0) = (minusS (sumS [p] A B) C == 0) := by
        rw [Bool.eq_iff_iff, beq_iff_eq, beq_iff_eq]; omega
      rw [← hmz] at e
      obtain ⟨M, hM⟩ : ∃ M, M = minusS (sumS [p] A B) C := ⟨_, rfl⟩
      obtain ⟨S, hS⟩ : ∃ S, S = sumS [p] A B := ⟨_, rfl⟩
      rw [← hM] at e han
      rw [← hS] at CM han hs24
      have HEE := Lib.hid e
      clear HR hp sa sb sc has CS hlit hg hgn hmz hM hS hsl e
      go_enter Try.func128, Try.ntmps128
      go_wp2_with fail
      rw [← HW.out]
      refine (isPrime_is p true HP.out _).mono ?_; rintro e w2 ⟨rfl, rfl⟩
      go_wp2_with fail
      refine CS1.out.mono ?_; rintro e w3 ⟨rfl, b3⟩
      have hb3 := nxB hB2 b3 hB2.size
      have q3 := (b3.cell (p := ⟨w.heap.size + 1, 0, none⟩) hz2).trans q2
      have hI3 := hI2.below b3 (Nat.le_refl _)
      clear CS1 q1 q2 hI hI2
      go_wp2_with fail
      refine (CM.out _ hI3).mono ?_; rintro e w4 ⟨rfl, b4⟩
      go_wp2_with fail
      go_ret
      exact ⟨ret_bool HEE.out.symm, nxB hb3 b4 hb3.size⟩

set_option maxRecDepth 20000 in
set_option maxHeartbeats 6400000 in
theorem zg_spec (p a b c : Int) (w : World) (hpw : (Lit.int .i64 p).wf = true) :
    Calls Try.prog 129 #[.int .i64 p, .int .i64 a, .int .i64 b, .int .i64 c] w fun e w' => e = .returned (.bool (zgB p a b c)) ∧ Below w.heap.size w w' := by
  obtain ⟨r, hr⟩ : ∃ r, r = zgB p a b c := ⟨_, rfl⟩
  have HR := Lib.hid hr
  rw [← hr]
  clear hr
  obtain ⟨W1, hW1⟩ : ∃ W, W = (w.alloc (.cells #[.int .i64 p] 3)).alloc (.cells #[.slice (some ⟨w.heap.size, 0, none⟩) 1 1] 26) := ⟨_, rfl⟩
  have hI : Ints W1 (some ⟨w.heap.size, 0, none⟩) 1 [p] := by rw [hW1]; exact (Ints.lit1 rfl p hpw).alloc _
  have hB : Below w.heap.size w W1 := by rw [hW1]; exact ((Below.refl w.heap.size w).alloc (Nat.le_refl _) _).alloc (by simp) _
  have hz1 : w.heap.size + 1 < W1.heap.size := by rw [hW1]; simp
  have q0 : W1.cell? ⟨w.heap.size + 1, 0, none⟩ = some (.slice (some ⟨w.heap.size, 0, none⟩) 1 1) := by rw [hW1]; simp [go_sem]
  have q1 := q0
  have HW := Lib.hid hW1
  clear hW1
  have CS0 := fun (x : Int) w' (hb : Below W1.heap.size W1 w') => isSet_spec (some ⟨w.heap.size, 0, none⟩) 1 [p] x w' (hI.below hb (Nat.le_refl _)) (by simp)
  simp only [List.length_cons, List.length_nil, Nat.zero_add] at CS0
  have CSa := Lib.hid (CS0 a)
  have CSb := Lib.hid (CS0 b)
  have CSc := Lib.hid (CS0 c)
  clear CS0
  cases hp : prmB p with
  | false =>
    have e : r = false := by rw [HR.out]; simp [zgB, hp]
    subst e
    have HP := Lib.hid hp
    clear HR hp CSa CSb CSc
    go_enter Try.func129, Try.ntmps129
    go_wp2_with fail
    rw [← HW.out]
    refine (l26Prime_is p false HP.out _).mono ?_; rintro e w2 ⟨rfl, rfl⟩
    go_wp2_with fail
    go_ret
    exact ⟨rfl, hB⟩
  | true =>
   have HP := Lib.hid hp
   cases hsa : setB [p] a with
   | false =>
    have e : r = false := by rw [HR.out]; simp [zgB, hsa]
    subst e
    rw [hsa] at CSa
    clear HR hp hsa
    go_enter Try.func129, Try.ntmps129
    go_wp2_with fail
    rw [← HW.out]
    refine (l26Prime_is p true HP.out _).mono ?_; rintro e w2 ⟨rfl, rfl⟩
    have bb := Below.refl W1.heap.size W1
    go_wp2_with fail
    refine (CSa.out _ bb).mono ?_; rintro e w3 ⟨rfl, b3⟩
    have bb := nx bb b3
    have q1 := (bb.cell (p := ⟨w.heap.size + 1, 0, none⟩) hz1).trans q0
    go_wp2_with fail
    go_ret
    exact ⟨rfl, hB.trans (bb.mono hB.size)⟩
   | true =>
   cases hsb : setB [p] b with
   | false =>
    have e : r = false := by rw [HR.out]; simp [zgB, hsb]
    subst e
    rw [hsa] at CSa
    rw [hsb] at CSb
    clear HR hp hsa hsb
    go_enter Try.func129, Try.ntmps129
    go_wp2_with fail
    rw [← HW.out]
    refine (l26Prime_is p true HP.out _).mono ?_; rintro e w2 ⟨rfl, rfl⟩
    have bb := Below.refl W1.heap.size W1
    go_wp2_with fail
    refine (CSa.out _ bb).mono ?_; rintro e w3 ⟨rfl, b3⟩
    have bb := nx bb b3
    have q1 := (bb.cell (p := ⟨w.heap.size + 1, 0, none⟩) hz1).trans q0
    go_wp2_with fail
    refine (CSb.out _ bb).mono ?_; rintro e w4 ⟨rfl, b4⟩
    have bb := nx bb b4
    have q1 := (bb.cell (p := ⟨w.heap.size + 1, 0, none⟩) hz1).trans q0
    go_wp2_with fail
    go_ret
    exact ⟨rfl, hB.trans (bb.mono hB.size)⟩
   | true =>
   cases hsc : setB [p] c with
   | false =>
    have e : r = false := by rw [HR.out]; simp [zgB, hsc]
    subst e
    rw [hsa] at CSa
    rw [hsb] at CSb
    rw [hsc] at CSc
    clear HR hp hsa hsb hsc
    go_enter Try.func129, Try.ntmps129
    go_wp2_with fail
    rw [← HW.out]
    refine (l26Prime_is p true HP.out _).mono ?_; rintro e w2 ⟨rfl, rfl⟩
    have bb := Below.refl W1.heap.size W1
    go_wp2_with fail
    refine (CSa.out _ bb).mono ?_; rintro e w3 ⟨rfl, b3⟩
    have bb := nx bb b3
    have q1 := (bb.cell (p := ⟨w.heap.size + 1, 0, none⟩) hz1).trans q0
    go_wp2_with fail
    refine (CSb.out _ bb).mono ?_; rintro e w4 ⟨rfl, b4⟩
    have bb := nx bb b4
    have q1 := (bb.cell (p := ⟨w.heap.size + 1, 0, none⟩) hz1).trans q0
    go_wp2_with fail
    refine (CSc.out _ bb).mono ?_; rintro e w5 ⟨rfl, b5⟩
    have bb := nx bb b5
    have q1 := (bb.cell (p := ⟨w.heap.size + 1, 0, none⟩) hz1).trans q0
    go_wp2_with fail
    go_ret
    exact ⟨rfl, hB.trans (bb.mono hB.size)⟩
   | true =>
    obtain ⟨A, rfl, hA, hA24⟩ := set_parts hp hsa
    obtain ⟨B, rfl, hBB, hB24⟩ := set_parts hp hsb
    obtain ⟨C, rfl, hC, hC24⟩ := set_parts hp hsc
    rw [hsa] at CSa
    rw [hsb] at CSb
    rw [hsc] at CSc
    have hpb := prm_bd hp
    have e : r = (minusS (sumS [p] A B) C == 0) := by rw [HR.out]; simp [zgB, hp, hsa, hsb, hsc]
    have hiff := zg_sum hp hA hBB hC
    rw [← e] at hiff
    have hbnd : ∀ {m : Nat}, m < 2 ^ p.toNat → ∀ x ∈ mems m, 0 ≤ x ∧ x < p := fun {m} hm x hx => by
      have hgn := (grp_prm hp).2
      obtain ⟨k1, k2, k3⟩ := mems_lt (os := [p]) (by rw [hgn]; exact hm) hx
      rw [hgn] at k2
      omega
    have HXB := Lib.hid (hbnd hA)
    have HYB := Lib.hid (hbnd hBB)
    have HZB := Lib.hid (hbnd hC)
    have HT : Hid ((∀ x ∈ mems A, ∀ y ∈ mems B, pz p (x + y) (mems C) = 0) → r = true) := Lib.hid hiff.2
    have HF : Hid (∀ x ∈ mems A, ∀ y ∈ mems B, pz p (x + y) (mems C) ≠ 0 → r = false) := Lib.hid (fun x hx y hy hne => by
      cases r with
      | false => rfl
      | true => exact absurd (hiff.1 rfl x hx y hy) hne)
    have HPZ : Hid (∀ s l, 0 ≤ pz p s l ∧ pz p s l < p) := Lib.hid (fun s l => pz_bd hp l)
    have CL := Lib.hid (fun (m : Nat) (hm : m < 16777216) w' => l3List_any m (by omega) w')
    have hXl := mems_len A
    have hYl := mems_len B
    have hZl := mems_len C
    have CLA := Lib.hid (CL.out A hA24)
    have CLB := Lib.hid (CL.out B hB24)
    have CLC := Lib.hid (CL.out C hC24)
    obtain ⟨X, hX⟩ : ∃ X, X = mems A := ⟨_, rfl⟩
    obtain ⟨Y, hY⟩ : ∃ X, X = mems B := ⟨_, rfl⟩
    obtain ⟨Z, hZ⟩ : ∃ X, X = mems C := ⟨_, rfl⟩
    rw [← hX] at HXB HT HF CLA hXl
    rw [← hY] at HYB HT HF CLB hYl
    rw [← hZ] at HZB HT HF CLC hZl
    clear HR hp hsa hsb hsc hA hBB hC e hiff hbnd hX hY hZ CL
    go_enter Try.func129, Try.ntmps129
    go_wp2_with fail
    rw [← HW.out]
    refine (l26Prime_is p true HP.out _).mono ?_; rintro e w2 ⟨rfl, rfl⟩
    have bb := Below.refl W1.heap.size W1
    go_wp2_with fail
    refine (CSa.out _ bb).mono ?_; rintro e w3 ⟨rfl, b3⟩
    have bb3 := nx bb b3
    have q3 := (bb3.cell (p := ⟨w.heap.size + 1, 0, none⟩) hz1).trans q0
    clear q1 b3 bb
    go_wp2_with fail
    refine (CSb.out _ bb3).mono ?_; rintro e w4 ⟨rfl, b4⟩
    have bb4 := nx bb3 b4
    have q4 := (bb4.cell (p := ⟨w.heap.size + 1, 0, none⟩) hz1).trans q0
    clear q3 b4 bb3
    go_wp2_with fail
    refine (CSc.out _ bb4).mono ?_; rintro e w5 ⟨rfl, b5⟩
    have bb5 := nx bb4 b5
    clear q4 b5 bb4 CSa CSb CSc
    go_wp2_with fail
    refine (CLA.out _).mono ?_; rintro e w6 ⟨ax, cx, rfl, ox, b6⟩
    go_wp2_with fail
    refine (CLB.out _).mono ?_; rintro e w7 ⟨ay, cy, rfl, oy, b7⟩
    go_wp2_with fail
    refine (CLC.out _).mono ?_; rintro e w8 ⟨az, cz, rfl, oz, b8⟩
    have hb8 := hB.trans ((nx (nx (nx bb5 b6) b7) b8).mono hB.size)
    have HXC := Lib.hid ((ox.below b7 (Nat.le_refl _)).below b8 (Nat.le_refl _)).ints.2.2.2.2
    have HYC := Lib.hid (oy.below b8 (Nat.le_refl _)).ints.2.2.2.2
    have HZC := Lib.hid oz.ints.2.2.2.2
    clear ox oy oz b6 b7 b8 bb5 CLA CLB CLC q0
    go_wp2_with fail
    go_loopw [13] (fun vi wr => ∃ i : Nat, i ≤ X.length ∧ vi = .int .i64 (i : Int) ∧ Hid (∀ t (ht : t < X.length), t < i → ∀ y ∈ Y, pz p (X[t] + y) Z = 0) ∧ Below w8.heap.size w8 wr) (fun vi _ => (X.length - intOf vi).toNat)
    case atStart => exact ⟨0, by omega, rfl, Lib.hid (fun t _ h => by omega), Below.refl _ _⟩
    case round =>
      obtain ⟨i, hi, rfl, HGX, hbx⟩ := hrel
      obtain ⟨wo, hwo⟩ : ∃ W, W = wr := ⟨_, rfl⟩
      subst hwo
      by_cases hix : i < X.length
      · rcases HXC.out with hcs | ⟨b1, off1, rfl, hbB1, hcell1⟩
        · subst hcs; simp at hix
        have HXI := Lib.hid (List.getElem_mem hix)
        have hxb := HXB.out _ (List.getElem_mem hix)
        have hxc := hcell1 i hix
        have HGN : Hid ((∀ y ∈ Y, pz p (X[i] + y) Z = 0) → ∀ t (ht : t < X.length), t < i + 1 → ∀ y ∈ Y, pz p (X[t] + y) Z = 0) := Lib.hid (fun h t ht hti => by
          by_cases e : t = i
          · subst e; exact h
          · exact HGX.out t ht (by omega))
        obtain ⟨x, hx⟩ : ∃ x, x = X[i] := ⟨_, rfl⟩
        rw [← hx] at HXI hxb hxc HGN
        have hix1 : decide ((i : Int) < (X.length : Int)) = true := by simp; omega
        have hixi : (i : Int) < X.length := by omega
        clear hcell1 hx HGX
        go_wp2_with fail
        go_loopw [14] (fun vk wr => ∃ k : Nat, k ≤ Y.length ∧ vk = .int .i64 (k : Int) ∧ Hid (∀ t (ht : t < Y.length), t < k → pz p (x + Y[t]) Z = 0) ∧ Below w8.heap.size w8 wr) (fun vk _ => (Y.length - intOf vk).toNat)
        case atStart => exact ⟨0, by omega, rfl, Lib.hid (fun t _ h => by omega), hbx⟩
        case round =>
          clear hbx
          obtain ⟨k, hk, rfl, HGY, hby⟩ := hrel
          obtain ⟨wm, hwm⟩ : ∃ W, W = wr := ⟨_, rfl⟩
          subst hwm
          by_cases hky : k < Y.length
          · rcases HYC.out with hcs | ⟨b2, off2, rfl, hbB2, hcell2⟩
            · subst hcs; simp at hky
            have HYI := Lib.hid (List.getElem_mem hky)
            have hyb := HYB.out _ (List.getElem_mem hky)
            have hyc := hcell2 k hky
            have HYN : Hid (pz p (x + Y[k]) Z = 0 → ∀ t (ht : t < Y.length), t < k + 1 → pz p (x + Y[t]) Z = 0) := Lib.hid (fun h t ht hti => by
              by_cases e : t = k
              · subst e; exact h
              · exact HGY.out t ht (by omega))
            obtain ⟨y, hy⟩ : ∃ x, x = Y[k] := ⟨_, rfl⟩
            rw [← hy] at HYI hyb hyc HYN
            have hky1 : decide ((k : Int) < (Y.length : Int)) = true := by simp; omega
            have hkyi : (k : Int) < Y.length := by omega
            clear hcell2 hy HGY
            go_wp2_with fail
            go_loopw [15, 16] (fun vn vj wr => ∃ j : Nat, j ≤ Z.length ∧ vj = .int .i64 (j : Int) ∧ vn = .int .i64 (pz p (x + y) (Z.take j)) ∧ Below w8.heap.size w8 wr) (fun _ vj _ => (Z.length - intOf vj).toNat)
            case atStart => exact ⟨0, by omega, rfl, by simp [pz], hby⟩
            case round =>
              clear hby
              obtain ⟨j, hj, rfl, rfl, hbz⟩ := hrel
              by_cases hjz : j < Z.length
              · rcases HZC.out with hcs | ⟨b3, off3, rfl, hbB3, hcell3⟩
                · subst hcs; simp at hjz
                have hzb := HZB.out _ (List.getElem_mem hjz)
                have d1 := (hbz.cell (p := ⟨b1, off1 + i, none⟩) hbB1).trans hxc
                have d2 := (hbz.cell (p := ⟨b2, off2 + k, none⟩) hbB2).trans hyc
                have d3 := (hbz.cell (p := ⟨b3, off3 + j, none⟩) hbB3).trans (hcell3 j hjz)
                have hst := pz_take (p := p) (s := x + y) hjz
                have hnb := HPZ.out (x + y) (Z.take j)
                obtain ⟨z, hz⟩ : ∃ x, x = Z[j] := ⟨_, rfl⟩
                obtain ⟨n, hn⟩ : ∃ n, n = pz p (x + y) (Z.take j) := ⟨_, rfl⟩
                rw [← hz] at d3 hzb hst
                rw [← hn] at hst hnb ⊢
                have h1 : 0 ≤ (x + y - z + p) % p ∧ (x + y - z + p) % p < p := ⟨Int.emod_nonneg _ (by omega), Int.emod_lt_of_pos _ (by omega)⟩
                have t1 : (x + y - z + p).tmod p = (x + y - z + p) % p := Int.tmod_eq_emod_of_nonneg (by omega)
                obtain ⟨M, hM⟩ : ∃ M, M = (x + y - z + p) % p := ⟨_, rfl⟩
                rw [← hM] at h1 t1 hst
                have hprod : 0 ≤ n * M ∧ n * M ≤ 529 := by
                  refine ⟨Int.mul_nonneg hnb.1 h1.1, ?_⟩
                  have := Int.mul_le_mul (show n ≤ 23 by omega) (show M ≤ 23 by omega) h1.1 (by omega)
                  omega
                have t2 : (n * M).tmod p = n * M % p := Int.tmod_eq_emod_of_nonneg hprod.1
                have h5 : 0 ≤ n * M % p ∧ n * M % p < p := ⟨Int.emod_nonneg _ (by omega), Int.emod_lt_of_pos _ (by omega)⟩
                obtain ⟨N, hN⟩ : ∃ N, N = n * M % p := ⟨_, rfl⟩
                rw [← hN] at t2 hst h5
                have w1 : IntKind.i64.wrap (x + y) = x + y := by rw [IntKind.wrap_i64]; omega
                have w2 : IntKind.i64.wrap (x + y - z) = x + y - z := by rw [IntKind.wrap_i64]; omega
                have w3 : IntKind.i64.wrap (x + y - z + p) = x + y - z + p := by rw [IntKind.wrap_i64]; omega
                have w4 : IntKind.i64.wrap (n * M) = n * M := by rw [IntKind.wrap_i64]; omega
                have w5 : IntKind.i64.wrap M = M := by rw [IntKind.wrap_i64]; omega
                have w6 : IntKind.i64.wrap N = N := by rw [IntKind.wrap_i64]; omega
                have hp0 : ¬ p = 0 := by omega
                have hjzi : (j : Int) < Z.length := by omega
                have HST := Lib.hid hst
                clear hcell3 hz hn hst hprod h1 h5 hM hN hnb
                go_wp2_with fail
                go_quiet (fail)
                go_wp2_with fail
                go_roundw
                case rel => exact ⟨j + 1, by omega, by go_num, by rw [HST.out], below_drewN hbz _⟩
                case measure => simp [intOf]; omega
              · obtain rfl : j = Z.length := by omega
                rw [List.take_length]
                by_cases h0 : pz p (x + y) Z = 0
                · have HY2 := Lib.hid (HYN.out h0)
                  rw [h0]
                  clear h0 HYN
                  go_wp2_with fail
                  go_roundw
                  case rel => exact ⟨k + 1, by omega, by go_num, HY2, hbz⟩
                  case measure => simp [intOf]; omega
                · have e := HF.out x HXI.out y HYI.out h0
                  subst e
                  obtain ⟨n, hn⟩ : ∃ n, n = pz p (x + y) Z := ⟨_, rfl⟩
                  rw [← hn] at h0 ⊢
                  have hne : (n != 0) = true := by simpa using h0
                  clear hn h0 HYN
                  go_wp2_with fail
                  go_ret
                  exact ⟨rfl, nx hb8 hbz⟩
          · obtain rfl : k = Y.length := by omega
            have HX2 := Lib.hid (HGN.out (fun y hy => by
              obtain ⟨t, ht, rfl⟩ := List.mem_iff_getElem.1 hy
              exact HGY.out t ht ht))
            clear HGN HGY
            go_wp2_with fail
            go_roundw
            case rel => exact ⟨i + 1, by omega, by go_num, HX2, hby⟩
            case measure => simp [intOf]; omega
      · obtain rfl : i = X.length := by omega
        have e := HT.out (fun x hx => by
          obtain ⟨t, ht, rfl⟩ := List.mem_iff_getElem.1 hx
          exact HGX.out t ht ht)
        subst e
        clear HGX HT HF
        go_wp2_with fail
        go_ret
        exact ⟨rfl, nx hb8 hbx⟩
end Go.Proofs.Ytbidkjhgodkamaa
