/-
Contracts of both sides' CanonicalSet. Conditions: lengths at most 2000000.
-/
import Derived.Test.YtokpgbpdmfibjaaCau2
import Derived.Test.YtokpgbpdmfibjaaImg
import Derived.Test.YtokpgbpdmfibjaaOrs
namespace Go.Proofs.Ytokpgbpdmfibjaa
open Go.RowKit Go.ChangeShapes
set_option linter.unusedVariables false

/-- The less of two numbers, the first one where they are equal. -/
def mn (s t : Nat) : Nat := if t < s then t else s
/-- The least of a number and of the shifts of a set by the first y elements. -/
def caS (os : List Int) (b : Nat) (best : Nat) : Nat → Nat
  | 0 => best
  | y + 1 => mn (caS os b best y) (orL (gadd os y) (mems b))
/-- The least of a number and of the shifts of the images by the first lists. -/
def caI (os : List Int) (F : List (List Int)) (a : Nat) : Nat → Nat
  | 0 => a
  | i + 1 => caS os (imS (F.getD i []) a) (caI os F a i) (gn os)
theorem mn_lt {s t N : Nat} (h : s < N) : mn s t < N := by unfold mn; split <;> omega
theorem caS_lt {os : List Int} {b best : Nat} (hb : best < 16777216) : ∀ y, caS os b best y < 16777216
  | 0 => hb
  | y + 1 => mn_lt (caS_lt hb y)
theorem caI_lt {os : List Int} {F : List (List Int)} {a : Nat} (ha : a < 16777216) : ∀ i, caI os F a i < 16777216
  | 0 => ha
  | i + 1 => caS_lt (caI_lt ha i) _
noncomputable def caV (os : List Int) (a : Nat) : Nat := caI os (autL os) a (autL os).length
def caB (os : List Int) (a : Int) : Bool := atB os && setB os a
noncomputable def caR (os : List Int) (a : Int) : Int := if caB os a = true then (caV os a.toNat : Int) else 0
theorem autL_mem {os : List Int} {i : Nat} (hi : i < (autL os).length) : autB os ((autL os).getD i []) = true := by
  rw [List.getD_eq_getElem?_getD, List.getElem?_eq_getElem hi]
  exact auGo_mem (d := os.length) (im := []) _ (List.getElem_mem hi)
theorem imS24 {f : List Int} (h : Small f) (a : Nat) : imS f a < 16777216 := by
  have := orL_lt (f := elt f) (m := 24) (fun y => elt_small h y) (mems a)
  unfold imS
  simpa using this

set_option maxRecDepth 20000 in
set_option maxHeartbeats 800000 in
theorem canonical_any (a0 : Option Addr) (c0 : Nat) (os : List Int) (af : Option Addr) (cf : Nat) (F : List (List Int)) (vs : List Value) (a : Nat) (w : World) (h0 : Ints w a0 c0 os) (hF0 : RdR w af F.length (fun i => F.getD i []) vs) (hl : os.length ≤ 2000000) (hg0 : grpB os = true) (hFl : F.length ≤ 1000) (hm : ∀ i, i < F.length → autB os (F.getD i []) = true) (ha : a < 2 ^ gn os) :
    Calls Try.prog 92 #[.agg #[.slice a0 os.length c0], .slice af F.length cf, .int .i64 a] w fun e w' => e = .returned (.int .i64 (caI os F a F.length : Int)) ∧ Below w.heap.size w w' := by
  have hb1 := (Below.refl w.heap.size w).alloc (Nat.le_refl _) (.cells #[.slice a0 os.length c0] 26)
  have hF1 := hF0.below hb1 (Nat.le_refl _)
  have q1 : (w.alloc (.cells #[.slice a0 os.length c0] 26)).cell? ⟨w.heap.size, 0, none⟩ = some (.slice a0 os.length c0) := by simp [go_sem]
  have z1 : w.heap.size < (w.alloc (.cells #[.slice a0 os.length c0] 26)).heap.size := by simp
  obtain ⟨g2, g3, g4, g5, g6⟩ := grp_gn hg0
  have HSL : Hid (∀ y m, orL (gadd os y) (mems m) < 16777216) := Lib.hid (fun y m => by
    have := orL_lt (f := gadd os y) (m := 24) (fun z => by have := gadd_lt' g2 y z; omega) (mems m)
    simpa using this)
  have HA : Hid (∀ i, i < F.length → Small (F.getD i []) ∧ (F.getD i []).length = gn os) := Lib.hid (fun i hi => by
    obtain ⟨-, h2, h3, -, -⟩ := aut_parts (hm i hi)
    exact ⟨h3, h2⟩)
  have h24 := Nat.pow_le_pow_right (n := 2) (by decide) g4
  have ha24 : a < 16777216 := by
    have e : (2 : Nat) ^ 24 = 16777216 := by decide
    omega
  have CO := Lib.hid (fun w h => orderOf_impl a0 c0 os w h hl)
  rw [show ordV os = gord os by simp [ordV, hg0], ← g5] at CO
  have CS := Lib.hid (fun b y w h hb hy => shift_any a0 c0 os b y w h hg0 hb hy)
  have HAL := Lib.hid ha
  obtain ⟨n, hn⟩ : ∃ n, n = gn os := ⟨_, rfl⟩
  have HN := Lib.hid hn
  rw [← hn] at CO HA HAL g4
  have hwn : IntKind.i64.wrap (n : Int) = n := wrap_in (by omega) (by omega)
  clear hn g2 g3 g5 g6 hg0 hm ha h24
  go_enter Try.func92, Try.ntmps92
  go_wp2_with fail
  go_loopw [7, 15] (fun vb vi wr => ∃ (k s : Nat), k ≤ F.length ∧ vi = .int .i64 (k : Int) ∧ vb = .int .i64 (s : Int) ∧ Hid (s = caI os F a k) ∧ s < 16777216 ∧ Below w.heap.size w wr ∧ wr.cell? ⟨w.heap.size, 0, none⟩ = some (.slice a0 os.length c0) ∧ w.heap.size < wr.heap.size ∧ RdR wr af F.length (fun i => F.getD i []) vs) (fun _ i _ => F.length - (intOf i).toNat)
  case atStart => exact ⟨0, a, by omega, rfl, rfl, Lib.hid rfl, ha24, hb1, q1, z1, hF1⟩
  case round =>
    clear hb1 q1 z1 hF1
    obtain ⟨k, s, hk, rfl, rfl, HS, hs24, hbel, q3, z3, hF⟩ := hrel
    have h3 := h0.below hbel (Nat.le_refl _)
    by_cases hlt : k < F.length
    · rcases hF.cells with hcs | ⟨b, off, rfl, hbB, hcell⟩
      · omega
      obtain ⟨ai, ci, e1, i1⟩ := hF.row k hlt
      have d1 := (hcell k hlt).trans e1
      obtain ⟨hsm, hfl⟩ := HA.out k hlt
      have hst : caS os (imS (F.getD k []) a) (caI os F a k) n = caI os F a (k + 1) := by rw [HN.out]; rfl
      rw [← HS.out] at hst
      replace i1 : Ints wr ai ci (F.getD k []) := i1
      replace d1 : wr.cell? ⟨b, off + k, none⟩ = some (.slice ai (F.getD k []).length ci) := d1
      obtain ⟨f, hf⟩ : ∃ f, f = F.getD k [] := ⟨_, rfl⟩
      rw [← hf] at hsm hfl hst i1 d1
      have CI := Lib.hid (fun w h => image_any ai ci f a w h hsm (by rw [hfl]; exact HAL.out))
      have hi24 := imS24 hsm a
      obtain ⟨m, hm⟩ : ∃ m, m = imS f a := ⟨_, rfl⟩
      rw [← hm] at CI hst hi24
      have HST := Lib.hid hst
      have hkn : (k : Int) < F.length := by omega
      have hF' := Lib.hid hF
      clear hf hm hst e1 hcell hsm hfl HS hF
      go_wp2_with fail
      refine (CI.out _ i1).mono ?_; rintro e w4 ⟨rfl, b4⟩
      have q4 := (b4.cell (p := ⟨w.heap.size, 0, none⟩) z3).trans q3
      have z4 := Nat.lt_of_lt_of_le z3 b4.size
      have hb4 := nx hbel b4
      have hF4 := hF'.out.below b4 (Nat.le_refl _)
      have h4 := h3.below b4 (Nat.le_refl _)
      clear b4 q3 z3 hbel i1 d1 CI hF' h3
      go_wp2_with fail
      refine (CO.out _ h4).mono ?_; rintro e w5 ⟨rfl, b5⟩
      have q5 := (b5.cell (p := ⟨w.heap.size, 0, none⟩) z4).trans q4
      have z5 := Nat.lt_of_lt_of_le z4 b5.size
      have hb5 := nx hb4 b5
      have hF5 := hF4.below b5 (Nat.le_refl _)
      clear b5 q4 z4 hb4 hF4 h4
      go_wp2_with fail
      go_loopw [7, 24] (fun vb vi wr => ∃ (y t : Nat), y ≤ n ∧ vi = .int .i64 (y : Int) ∧ vb = .int .i64 (t : Int) ∧ Hid (t = caS os m s y) ∧ t < 16777216 ∧ Below w.heap.size w wr ∧ wr.cell? ⟨w.heap.size, 0, none⟩ = some (.slice a0 os.length c0) ∧ w.heap.size < wr.heap.size ∧ RdR wr (some ⟨b, off, none⟩) F.length (fun i => F.getD i []) vs) (fun _ i _ => n - (intOf i).toNat)
      case atStart => exact ⟨0, s, by omega, rfl, rfl, Lib.hid rfl, hs24, hb5, q5, z5, hF5⟩
      case round =>
        clear hb5 q5 z5 hF5
        obtain ⟨y, t, hy, rfl, rfl, HT, ht24, hbel, q3, z3, hF⟩ := hrel
        have h5 := h0.below hbel (Nat.le_refl _)
        by_cases hyn : y < n
        · have hst : mn (caS os m s y) (orL (gadd os y) (mems m)) = caS os m s (y + 1) := rfl
          rw [← HT.out] at hst
          have hu24 := HSL.out y m
          have CS1 := Lib.hid (fun w h => CS.out m y w h (by omega) (by omega))
          obtain ⟨u, hu⟩ : ∃ u, u = orL (gadd os y) (mems m) := ⟨_, rfl⟩
          rw [← hu] at hst hu24 CS1
          have hyn2 : (y : Int) < (n : Int) := by omega
          have HF := Lib.hid hF
          clear HT hu hF
          by_cases hut : u < t
          · have hut2 : (u : Int) < (t : Int) := by omega
            have HST2 := Lib.hid (show u = caS os m s (y + 1) by rw [← hst, mn, if_pos hut])
            clear hst hut
            go_wp2_with fail
            refine (CS1.out _ h5).mono ?_; rintro e w6 ⟨rfl, b6⟩
            have q6 := (b6.cell (p := ⟨w.heap.size, 0, none⟩) z3).trans q3
            have z6 := Nat.lt_of_lt_of_le z3 b6.size
            have hb6 := nx hbel b6
            have hF6 := HF.out.below b6 (Nat.le_refl _)
            clear b6 q3 z3 hbel h5 CS1 HF
            go_wp2_with fail
            go_roundw
            case rel => exact ⟨y + 1, u, by omega, by go_num, rfl, HST2, hu24, hb6, q6, z6, hF6⟩
            case measure => simp [intOf]; omega
          · have hut2 : ¬ (u : Int) < (t : Int) := by omega
            have HST2 := Lib.hid (show t = caS os m s (y + 1) by rw [← hst, mn, if_neg hut])
            clear hst hut
            go_wp2_with fail
            refine (CS1.out _ h5).mono ?_; rintro e w6 ⟨rfl, b6⟩
            have q6 := (b6.cell (p := ⟨w.heap.size, 0, none⟩) z3).trans q3
            have z6 := Nat.lt_of_lt_of_le z3 b6.size
            have hb6 := nx hbel b6
            have hF6 := HF.out.below b6 (Nat.le_refl _)
            clear b6 q3 z3 hbel h5 CS1 HF
            go_wp2_with fail
            go_roundw
            case rel => exact ⟨y + 1, t, by omega, by go_num, rfl, HST2, ht24, hb6, q6, z6, hF6⟩
            case measure => simp [intOf]; omega
        · obtain rfl : y = n := by omega
          have e := HT.out
          rw [HST.out] at e
          have HE := Lib.hid e
          clear e HT HST
          go_wp2_with fail
          go_roundw
          case rel => exact ⟨k + 1, t, by omega, by go_num, rfl, HE, ht24, hbel, q3, z3, hF⟩
          case measure => simp [intOf]; omega
    · obtain rfl : k = F.length := by omega
      have e := HS.out
      subst e
      clear HS HA
      go_wp2_with fail
      go_ret
      exact ⟨rfl, hbel⟩

set_option maxHeartbeats 1600000 in
theorem can_impl (a0 : Option Addr) (c0 : Nat) (os : List Int) (a : Int) (w : World) (h0 : Ints w a0 c0 os) (hl : os.length ≤ 2000000) :
    Calls Try.prog 20 #[.agg #[.slice a0 os.length c0], .int .i64 a] w fun e w' => e = .returned (.tuple #[.int .i64 (caR os a), .bool (caB os a)]) ∧ Below w.heap.size w w' := by
  have hb0 := (Below.refl w.heap.size w).alloc (Nat.le_refl _) (.cells #[.slice a0 os.length c0] 26)
  have h1 := h0.below hb0 (Nat.le_refl _)
  have C := Lib.hid (fun w h => ats_impl a0 c0 os w h hl)
  have CS := Lib.hid (fun w h => isSet_impl a0 c0 os a w h hl)
  have hL := atL_len os
  cases hb : atB os with
  | false =>
    have e1 : caB os a = false := by simp [caB, hb]
    have e2 : caR os a = 0 := by simp [caR, e1]
    rw [e1, e2]
    rw [hb] at C
    obtain ⟨L, hL0⟩ : ∃ L, L = atL os := ⟨_, rfl⟩
    rw [← hL0] at C hL
    clear hb hL0 e1 e2
    go_enter Try.func20, Try.ntmps20
    go_wp2_with fail
    refine (C.out _ h1).mono ?_; rintro e w1 ⟨al, cl, vs, rfl, o1, b1⟩
    go_wp2_with fail
    go_ret2
    exact ⟨rfl, nx hb0 b1⟩
  | true =>
    have eL : atL os = autL os := by simp [atL, hb]
    have hg : grpB os = true := by simp only [atB, Bool.and_eq_true] at hb; exact hb.1
    rw [hb, eL] at C
    rw [eL] at hL
    cases hS : setB os a with
    | false =>
      have e1 : caB os a = false := by simp [caB, hS]
      have e2 : caR os a = 0 := by simp [caR, e1]
      rw [e1, e2]
      rw [hS] at CS
      obtain ⟨L, hL0⟩ : ∃ L, L = autL os := ⟨_, rfl⟩
      rw [← hL0] at C hL
      clear hb hL0 e1 e2 eL hS hg
      go_enter Try.func20, Try.ntmps20
      go_wp2_with fail
      refine (C.out _ h1).mono ?_; rintro e w1 ⟨al, cl, vs, rfl, o1, b1⟩
      have q1 := box_cell b1 (by simp)
      have h2 := h1.below b1 (Nat.le_refl _)
      go_wp2_with fail
      refine (CS.out _ h2).mono ?_; rintro e w2 ⟨rfl, b2⟩
      go_wp2_with fail
      go_ret2
      exact ⟨rfl, nx (nx hb0 b1) b2⟩
    | true =>
      have e1 : caB os a = true := by simp [caB, hb, hS]
      obtain ⟨-, m, rfl, hm⟩ := setB_parts hS
      have e2 : caR os (m : Int) = (caV os m : Int) := by simp [caR, e1]
      rw [e1, e2]
      rw [hS] at CS
      obtain ⟨g2, g3, g4, g5, g6⟩ := grp_gn hg
      have CC := Lib.hid (fun al cl vs w h k => canonical_any a0 c0 os al cl (autL os) vs m w h k hl hg (by omega) (fun i hi => autL_mem hi) (by rw [← g6]; exact hm))
      obtain ⟨v, hv⟩ : ∃ v, v = caV os m := ⟨_, rfl⟩
      rw [show caI os (autL os) m (autL os).length = v by rw [hv]; rfl] at CC
      rw [← hv]
      obtain ⟨L, hL0⟩ : ∃ L, L = autL os := ⟨_, rfl⟩
      rw [← hL0] at C hL CC
      clear hb hL0 e1 e2 eL hS hg hv g2 g3 g4 g5 g6 hm
      go_enter Try.func20, Try.ntmps20
      go_wp2_with fail
      refine (C.out _ h1).mono ?_; rintro e w1 ⟨al, cl, vs, rfl, o1, b1⟩
      have q1 := box_cell b1 (by simp)
      have z1 : w.heap.size < w1.heap.size := by have := b1.size; simp at this; omega
      have h2 := h1.below b1 (Nat.le_refl _)
      go_wp2_with fail
      refine (CS.out _ h2).mono ?_; rintro e w2 ⟨rfl, b2⟩
      have q2 := (b2.cell (p := ⟨w.heap.size, 0, none⟩) z1).trans q1
      have h3 := h2.below b2 (Nat.le_refl _)
      have r3 := o1.rd.below b2 (Nat.le_refl _)
      clear q1
      go_wp2_with fail
      refine (CC.out al cl vs _ h3 r3).mono ?_; rintro e w3 ⟨rfl, b3⟩
      go_wp2_with fail
      go_ret2
      exact ⟨rfl, nx (nx (nx hb0 b1) b2) b3⟩

set_option maxRecDepth 20000 in
set_option maxHeartbeats 800000 in
theorem can_spec (a0 : Option Addr) (c0 : Nat) (os : List Int) (a : Int) (w : World) (h0 : Ints w a0 c0 os) (hl : os.length ≤ 2000000) :
    Calls Try.prog 24 #[.agg #[.slice a0 os.length c0], .int .i64 a] w fun e w' => e = .returned (.tuple #[.int .i64 (caR os a), .bool (caB os a)]) ∧ Below w.heap.size w w' := by
  have hb0 := (Below.refl w.heap.size w).alloc (Nat.le_refl _) (.cells #[.slice a0 os.length c0] 26)
  have h1 := h0.below hb0 (Nat.le_refl _)
  have C := Lib.hid (fun w h => ats_spec a0 c0 os w h hl)
  have CS := Lib.hid (fun w h => isSet_spec a0 c0 os a w h hl)
  have hL := atL_len os
  cases hb : atB os with
  | false =>
    have e1 : caB os a = false := by simp [caB, hb]
    have e2 : caR os a = 0 := by simp [caR, e1]
    rw [e1, e2]
    rw [hb] at C
    obtain ⟨L, hL0⟩ : ∃ L, L = atL os := ⟨_, rfl⟩
    rw [← hL0] at C hL
    clear hb hL0 e1 e2
    go_enter Try.func24, Try.ntmps24
    go_wp2_with fail
    refine (C.out _ h1).mono ?_; rintro e w1 ⟨al, cl, vs, rfl, o1, b1⟩
    go_wp2_with fail
    go_ret2
    exact ⟨rfl, nx hb0 b1⟩
  | true =>
    have eL : atL os = autL os := by simp [atL, hb]
    have hg : grpB os = true := by simp only [atB, Bool.and_eq_true] at hb; exact hb.1
    rw [hb, eL] at C
    rw [eL] at hL
    cases hS : setB os a with
    | false =>
      have e1 : caB os a = false := by simp [caB, hS]
      have e2 : caR os a = 0 := by simp [caR, e1]
      rw [e1, e2]
      rw [hS] at CS
      obtain ⟨L, hL0⟩ : ∃ L, L = autL os := ⟨_, rfl⟩
      rw [← hL0] at C hL
      clear hb hL0 e1 e2 eL hS hg
      go_enter Try.func24, Try.ntmps24
      go_wp2_with fail
      refine (C.out _ h1).mono ?_; rintro e w1 ⟨al, cl, vs, rfl, o1, b1⟩
      have q1 := box_cell b1 (by simp)
      have h2 := h1.below b1 (Nat.le_refl _)
      go_wp2_with fail
      refine (CS.out _ h2).mono ?_; rintro e w2 ⟨rfl, b2⟩
      go_wp2_with fail
      go_ret2
      exact ⟨rfl, nx (nx hb0 b1) b2⟩
    | true =>
      have e1 : caB os a = true := by simp [caB, hb, hS]
      obtain ⟨-, m, rfl, hm⟩ := setB_parts hS
      have e2 : caR os (m : Int) = (caV os m : Int) := by simp [caR, e1]
      rw [e1, e2]
      rw [hS] at CS
      obtain ⟨v, hv⟩ : ∃ v, v = caV os m := ⟨_, rfl⟩
      rw [← hv]
      have hv' : v = caI os (autL os) m (autL os).length := by rw [hv]; rfl
      have hmm : ∀ i, i < (autL os).length → autB os ((autL os).getD i []) = true := fun i hi => autL_mem hi
      obtain ⟨F, hF⟩ : ∃ F, F = autL os := ⟨_, rfl⟩
      rw [← hF] at C hL hv' hmm
      clear hv hF eL e1 e2 hS hb
      have hg0 := hg
      have hFl : F.length ≤ 1000 := by omega
      obtain ⟨g2, g3, g4, g5, g6⟩ := grp_gn hg0
      have HSL : Hid (∀ y b, orL (gadd os y) (mems b) < 16777216) := Lib.hid (fun y b => by
        have := orL_lt (f := gadd os y) (m := 24) (fun z => by have := gadd_lt' g2 y z; omega) (mems b)
        simpa using this)
      have HA : Hid (∀ i, i < F.length → Small (F.getD i []) ∧ (F.getD i []).length = gn os) := Lib.hid (fun i hi => by
        obtain ⟨-, h2, h3, -, -⟩ := aut_parts (hmm i hi)
        exact ⟨h3, h2⟩)
      have h24 := Nat.pow_le_pow_right (n := 2) (by decide) g4
      have ha24 : m < 16777216 := by
        have e : (2 : Nat) ^ 24 = 16777216 := by decide
        omega
      have CO := Lib.hid (fun w h => l2Order_any a0 c0 os w h hg0)
      rw [← g5] at CO
      have CSS := Lib.hid (fun b y w h hb hy => l3Shift_any a0 c0 os b y w h hg0 hb hy)
      have HAL := Lib.hid (show m < 2 ^ gn os by rw [← g6]; exact hm)
      obtain ⟨n, hn⟩ : ∃ n, n = gn os := ⟨_, rfl⟩
      have HN := Lib.hid hn
      rw [← hn] at CO HA HAL g4
      have hwn : IntKind.i64.wrap (n : Int) = n := wrap_in (by omega) (by omega)
      obtain ⟨a, hma⟩ : ∃ a, a = m := ⟨_, rfl⟩
      subst hma
      have HV := Lib.hid hv'
      clear hn g2 g3 g5 g6 hg0 hm h24 hg hmm hv'
      go_enter Try.func24, Try.ntmps24
      go_wp2_with fail
      refine (C.out _ h1).mono ?_; rintro e w1 ⟨af, cf, vs, rfl, o1, b1⟩
      have q1 := box_cell b1 (by simp)
      have z1 : w.heap.size < w1.heap.size := by have := b1.size; simp at this; omega
      have h2 := h1.below b1 (Nat.le_refl _)
      have hb2 := nx hb0 b1
      clear b1
      go_wp2_with fail
      refine (CS.out _ h2).mono ?_; rintro e w2 ⟨rfl, b2⟩
      have q2 := (b2.cell (p := ⟨w.heap.size, 0, none⟩) z1).trans q1
      have hF1 := o1.rd.below b2 (Nat.le_refl _)
      have z2 := Nat.lt_of_lt_of_le z1 b2.size
      have hb1 := nx hb2 b2
      clear q1 z1 b2 h2 hb2 o1 hb0 h1 C CS
      have q1 := q2
      have z1 := z2
      have CS := CSS
      clear q2 z2 CSS
      go_wp2_with fail
      go_loopw [8, 9] (fun vb vi wr => ∃ (k s : Nat), k ≤ F.length ∧ vi = .int .i64 (k : Int) ∧ vb = .int .i64 (s : Int) ∧ Hid (s = caI os F a k) ∧ s < 16777216 ∧ Below w.heap.size w wr ∧ wr.cell? ⟨w.heap.size, 0, none⟩ = some (.slice a0 os.length c0) ∧ w.heap.size < wr.heap.size ∧ RdR wr af F.length (fun i => F.getD i []) vs) (fun _ i _ => F.length - (intOf i).toNat)
      case atStart => exact ⟨0, a, by omega, rfl, rfl, Lib.hid rfl, ha24, hb1, q1, z1, hF1⟩
      case round =>
        clear hb1 q1 z1 hF1
        obtain ⟨k, s, hk, rfl, rfl, HS, hs24, hbel, q3, z3, hF⟩ := hrel
        have h3 := h0.below hbel (Nat.le_refl _)
        by_cases hlt : k < F.length
        · rcases hF.cells with hcs | ⟨b, off, rfl, hbB, hcell⟩
          · omega
          obtain ⟨ai, ci, e1, i1⟩ := hF.row k hlt
          have d1 := (hcell k hlt).trans e1
          obtain ⟨hsm, hfl⟩ := HA.out k hlt
          have hst : caS os (imS (F.getD k []) a) (caI os F a k) n = caI os F a (k + 1) := by rw [HN.out]; rfl
          rw [← HS.out] at hst
          replace i1 : Ints wr ai ci (F.getD k []) := i1
          replace d1 : wr.cell? ⟨b, off + k, none⟩ = some (.slice ai (F.getD k []).length ci) := d1
          obtain ⟨f, hf⟩ : ∃ f, f = F.getD k [] := ⟨_, rfl⟩
          rw [← hf] at hsm hfl hst i1 d1
          have CI := Lib.hid (fun w h => l27Image_any ai ci f a w h hsm (by rw [hfl]; exact HAL.out))
          have hi24 := imS24 hsm a
          obtain ⟨m, hm⟩ : ∃ m, m = imS f a := ⟨_, rfl⟩
          rw [← hm] at CI hst hi24
          have HST := Lib.hid hst
          have hkn : (k : Int) < F.length := by omega
          have hF' := Lib.hid hF
          clear hf hm hst e1 hcell hsm hfl HS hF
          go_wp2_with fail
          refine (CI.out _ i1).mono ?_; rintro e w4 ⟨rfl, b4⟩
          have q4 := (b4.cell (p := ⟨w.heap.size, 0, none⟩) z3).trans q3
          have z4 := Nat.lt_of_lt_of_le z3 b4.size
          have hb4 := nx hbel b4
          have hF4 := hF'.out.below b4 (Nat.le_refl _)
          have h4 := h3.below b4 (Nat.le_refl _)
          clear b4 q3 z3 hbel i1 d1 CI hF' h3
          go_wp2_with fail
          have hb5 := hb4
          have q5 := q4
          have z5 := z4
          have hF5 := hF4
          clear hb4 q4 z4 hF4 h4
          go_loopw [8, 11] (fun vb vi wr => ∃ (y t : Nat), y ≤ n ∧ vi = .int .i64 (y : Int) ∧ vb = .int .i64 (t : Int) ∧ Hid (t = caS os m s y) ∧ t < 16777216 ∧ Below w.heap.size w wr ∧ wr.cell? ⟨w.heap.size, 0, none⟩ = some (.slice a0 os.length c0) ∧ w.heap.size < wr.heap.size ∧ RdR wr (some ⟨b, off, none⟩) F.length (fun i => F.getD i []) vs) (fun _ i _ => n - (intOf i).toNat)
          case atStart => exact ⟨0, s, by omega, rfl, rfl, Lib.hid rfl, hs24, hb5, q5, z5, hF5⟩
          case round =>
            clear hb5 q5 z5 hF5
            obtain ⟨y, t, hy, rfl, rfl, HT, ht24, hbel, q3, z3, hF⟩ := hrel
            have h5 := h0.below hbel (Nat.le_refl _)
            by_cases hyn : y < n
            · have hst : mn (caS os m s y) (orL (gadd os y) (mems m)) = caS os m s (y + 1) := rfl
              rw [← HT.out] at hst
              have hu24 := HSL.out y m
              have CS1 := Lib.hid (fun w h => CS.out m y w h (by omega) (by omega))
              obtain ⟨u, hu⟩ : ∃ u, u = orL (gadd os y) (mems m) := ⟨_, rfl⟩
              rw [← hu] at hst hu24 CS1
              have hyn2 : (y : Int) < (n : Int) := by omega
              have HF := Lib.hid hF
              clear HT hu hF
              by_cases hut : u < t
              · have hut2 : (u : Int) < (t : Int) := by omega
                have HST2 := Lib.hid (show u = caS os m s (y + 1) by rw [← hst, mn, if_pos hut])
                clear hst hut
                go_wp2_with fail
                refine (CO.out _ h5).mono ?_; rintro e w7 ⟨rfl, b7⟩
                have q7 := (b7.cell (p := ⟨w.heap.size, 0, none⟩) z3).trans q3
                have z7 := Nat.lt_of_lt_of_le z3 b7.size
                have hb7 := nx hbel b7
                have h7 := h5.below b7 (Nat.le_refl _)
                have hF7 := HF.out.below b7 (Nat.le_refl _)
                clear b7 q3 z3 hbel h5 HF
                have q3 := q7
                have z3 := z7
                have hbel := hb7
                have h5 := h7
                have HF := Lib.hid hF7
                clear q7 z7 hb7 h7 hF7
                go_wp2_with fail
                refine (CS1.out _ h5).mono ?_; rintro e w6 ⟨rfl, b6⟩
                have q6 := (b6.cell (p := ⟨w.heap.size, 0, none⟩) z3).trans q3
                have z6 := Nat.lt_of_lt_of_le z3 b6.size
                have hb6 := nx hbel b6
                have hF6 := HF.out.below b6 (Nat.le_refl _)
                clear b6 q3 z3 hbel h5 CS1 HF
                go_wp2_with fail
                go_roundw
                case rel => exact ⟨y + 1, u, by omega, by go_num, rfl, HST2, hu24, hb6, q6, z6, hF6⟩
                case measure => simp [intOf]; omega
              · have hut2 : ¬ (u : Int) < (t : Int) := by omega
                have HST2 := Lib.hid (show t = caS os m s (y + 1) by rw [← hst, mn, if_neg hut])
                clear hst hut
                go_wp2_with fail
                refine (CO.out _ h5).mono ?_; rintro e w7 ⟨rfl, b7⟩
                have q7 := (b7.cell (p := ⟨w.heap.size, 0, none⟩) z3).trans q3
                have z7 := Nat.lt_of_lt_of_le z3 b7.size
                have hb7 := nx hbel b7
                have h7 := h5.below b7 (Nat.le_refl _)
                have hF7 := HF.out.below b7 (Nat.le_refl _)
                clear b7 q3 z3 hbel h5 HF
                have q3 := q7
                have z3 := z7
                have hbel := hb7
                have h5 := h7
                have HF := Lib.hid hF7
                clear q7 z7 hb7 h7 hF7
                go_wp2_with fail
                refine (CS1.out _ h5).mono ?_; rintro e w6 ⟨rfl, b6⟩
                have q6 := (b6.cell (p := ⟨w.heap.size, 0, none⟩) z3).trans q3
                have z6 := Nat.lt_of_lt_of_le z3 b6.size
                have hb6 := nx hbel b6
                have hF6 := HF.out.below b6 (Nat.le_refl _)
                clear b6 q3 z3 hbel h5 CS1 HF
                go_wp2_with fail
                go_roundw
                case rel => exact ⟨y + 1, t, by omega, by go_num, rfl, HST2, ht24, hb6, q6, z6, hF6⟩
                case measure => simp [intOf]; omega
            · obtain rfl : y = n := by omega
              have e := HT.out
              rw [HST.out] at e
              have HE := Lib.hid e
              clear e HT HST
              go_wp2_with fail
              refine (CO.out _ h5).mono ?_; rintro e w7 ⟨rfl, b7⟩
              have q7 := (b7.cell (p := ⟨w.heap.size, 0, none⟩) z3).trans q3
              have z7 := Nat.lt_of_lt_of_le z3 b7.size
              have hb7 := nx hbel b7
              have hF7 := hF.below b7 (Nat.le_refl _)
              clear b7 q3 z3 hbel hF
              have q3 := q7
              have z3 := z7
              have hbel := hb7
              have hF := hF7
              clear q7 z7 hb7 hF7
              go_wp2_with fail
              go_roundw
              case rel => exact ⟨k + 1, t, by omega, by go_num, rfl, HE, ht24, hbel, q3, z3, hF⟩
              case measure => simp [intOf]; omega
        · obtain rfl : k = F.length := by omega
          have e := HS.out
          subst e
          clear HS HA
          go_wp2_with fail
          have e := HV.out
          subst e
          go_ret2
          exact ⟨rfl, hbel⟩
end Go.Proofs.Ytokpgbpdmfibjaa
