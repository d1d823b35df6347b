/-
Contracts of the binomials modulo a number: the program's binomial and BinomialMod, the reference's BinomialMod. Conditions: upper numbers from 0 to 60, moduli from 2 to 23.
-/
import Derived.Test.YtbidkjhgodkamaaInts
namespace Go.Proofs.Ytbidkjhgodkamaa
open Go.RowKit Go.ChangeShapes

/-- Pascal's triangle modulo p. -/
def pas (p : Int) : Nat → Nat → Int
  | 0, 0 => 1 % p
  | 0, _ + 1 => 0
  | _ + 1, 0 => 1 % p
  | i + 1, j + 1 => (pas p i (j + 1) + pas p i j) % p

theorem pas_bd (p : Int) (hp : 2 ≤ p) : ∀ i j, 0 ≤ pas p i j ∧ pas p i j < p
  | 0, 0 => by unfold pas; exact ⟨Int.emod_nonneg _ (by omega), Int.emod_lt_of_pos _ (by omega)⟩
  | 0, _ + 1 => by unfold pas; omega
  | _ + 1, 0 => by unfold pas; exact ⟨Int.emod_nonneg _ (by omega), Int.emod_lt_of_pos _ (by omega)⟩
  | i + 1, j + 1 => by unfold pas; exact ⟨Int.emod_nonneg _ (by omega), Int.emod_lt_of_pos _ (by omega)⟩
theorem pas_zero (p : Int) : ∀ i j, i < j → pas p i j = 0
  | 0, _ + 1, _ => by unfold pas; rfl
  | i + 1, j + 1, h => by unfold pas; rw [pas_zero p i (j + 1) (by omega), pas_zero p i j (by omega)]; simp
theorem pas_col (p : Int) : ∀ i, pas p i 0 = 1 % p
  | 0 => by unfold pas; rfl
  | _ + 1 => by unfold pas; rfl

/-- A row of m + 1 numbers. -/
def rowL (f : Nat → Int) (m : Nat) : List Int := (List.range (m + 1)).map f
theorem rowL_len (f : Nat → Int) (m : Nat) : (rowL f m).length = m + 1 := by simp [rowL]
theorem rowL_get (f : Nat → Int) (m j : Nat) (h : j < (rowL f m).length) : (rowL f m)[j] = f j := by simp [rowL]
theorem rowL_ext {f g : Nat → Int} {m : Nat} (h : ∀ j, j ≤ m → f j = g j) : rowL f m = rowL g m := by
  unfold rowL
  apply List.map_congr_left
  intro j hj
  exact h j (by simp at hj; omega)
theorem rowL_set (f : Nat → Int) (m t : Nat) (v : Int) : (rowL f m).set t v = rowL (fun s => if s = t then v else f s) m := by
  apply List.ext_getElem
  · simp [rowL]
  · intro i h1 h2
    rw [List.getElem_set]
    simp only [rowL, List.getElem_map, List.getElem_range]
    by_cases h : t = i
    · subst h; simp
    · rw [if_neg h, if_neg (by omega)]

/-- In round i + 1, when the columns above t are done. -/
def rowM (p : Int) (i t : Nat) : Nat → Int := fun s => if s ≤ t then pas p i s else pas p (i + 1) s
theorem rowM_step (p : Int) (i t m : Nat) : (rowL (rowM p i (t + 1)) m).set (t + 1) ((pas p i (t + 1) + pas p i t) % p) = rowL (rowM p i t) m := by
  rw [rowL_set]
  apply rowL_ext
  intro j _
  unfold rowM
  by_cases h : j = t + 1
  · subst h; rw [if_pos rfl, if_neg (by omega)]; rfl
  · rw [if_neg h]
    by_cases h2 : j ≤ t
    · rw [if_pos (by omega), if_pos h2]
    · rw [if_neg (by omega), if_neg h2]
theorem rowM_end (p : Int) (i m : Nat) : rowL (rowM p i 0) m = rowL (pas p (i + 1)) m := by
  apply rowL_ext
  intro j _
  unfold rowM
  by_cases h : j ≤ 0
  · obtain rfl : j = 0 := by omega
    rw [if_pos h, pas_col, pas_col]
  · rw [if_neg h]
theorem rowM_start (p : Int) (i t m : Nat) (h : i + 1 ≤ t ∨ m ≤ t) : rowL (pas p i) m = rowL (rowM p i t) m := by
  apply rowL_ext
  intro j hj
  unfold rowM
  by_cases h2 : j ≤ t
  · rw [if_pos h2]
  · rw [if_neg h2, pas_zero p i j (by omega), pas_zero p (i + 1) j (by omega)]
theorem row_first (p : Int) (m : Nat) : (List.replicate (m + 1) (0 : Int)).set 0 (1 % p) = rowL (pas p 0) m := by
  apply List.ext_getElem
  · simp [rowL]
  · intro i h1 h2
    rw [List.getElem_set]
    simp only [rowL, List.getElem_map, List.getElem_range, List.getElem_replicate]
    by_cases h : 0 = i
    · subst h; unfold pas; simp
    · rw [if_neg h, pas_zero p 0 i (by omega)]

/-- What binomial returns. -/
def binv (n : Nat) (k p : Int) : Int := if inB k 0 n = true then pas p n k.toNat else 0

set_option maxHeartbeats 1600000 in
theorem binomial_any (n : Nat) (k p : Int) (hn : n ≤ 60) (hp1 : 2 ≤ p) (hp2 : p ≤ 23) (w : World) :
    Calls Try.prog 251 #[.int .i64 n, .int .i64 k, .int .i64 p] w fun e w' => e = .returned (.int .i64 (binv n k p)) ∧ Below w.heap.size w w' := by
  have hb := pas_bd p hp1
  have HP := Lib.hid hb
  clear hb
  have w1p : (Lit.int .i64 (1 % p)).wf = true := by
    have h1 : 0 ≤ 1 % p := Int.emod_nonneg _ (by omega)
    have h2 : 1 % p < p := Int.emod_lt_of_pos _ (by omega)
    exact wf_of (by omega) (by omega)
  obtain ⟨r, hr⟩ : ∃ r, r = binv n k p := ⟨_, rfl⟩
  have HR := Lib.hid hr
  rw [← hr]
  clear hr
  go_enter Try.func251, Try.ntmps251
  go_wp2_with (at_make; refine wpList_mk rfl _ _ rfl w.heap.size _ _ (n + 1) rfl rfl (by omega) (by omega) (by omega) (Nat.le_refl _) ?_)
  intro w1 o1 hb
  have b1 := hb _ (Below.refl _ _)
  have hc0 := o1.cell 0 (by simp)
  have hf0 := o1.frozen 0
  have o2 := o1.set 0 (1 % p) w1p
  rw [row_first] at o2
  have b2 := b1.setCell (p := ⟨w.heap.size, 0, none⟩) (Nat.le_refl _) (.int .i64 (1 % p))
  have O2 := Lib.hid o2
  clear o1 hb b1 o2 w1p
  go_wp2_with fail
  go_loopw [8] (fun i wr => ∃ j : Nat, j ≤ n ∧ i = .int .i64 (j + 1) ∧ OwnI wr w.heap.size (some ⟨w.heap.size, 0, none⟩) (n + 1) (rowL (pas p j) n) ∧ Below w.heap.size w wr) (fun i _ => (n + 1 - intOf i).toNat)
  case atStart => exact ⟨0, by omega, rfl, O2.out, b2⟩
  case round =>
    obtain ⟨j, hj, rfl, hown, hbel⟩ := hrel
    clear hc0 hf0 O2 b2
    by_cases hlt : (j : Int) + 1 ≤ n
    · rw [rowM_start p j (j + 1) n (.inl (Nat.le_refl _))] at hown
      have HO := Lib.hid hown
      clear hown
      obtain ⟨wo, rfl⟩ : ∃ wo : World, wo = wr := ⟨_, rfl⟩
      go_wp2_with fail
      go_loopw [9] (fun t wr => ∃ s : Nat, s ≤ j + 1 ∧ t = .int .i64 s ∧ OwnI wr w.heap.size (some ⟨w.heap.size, 0, none⟩) (n + 1) (rowL (rowM p j s) n) ∧ Below w.heap.size w wr) (fun t _ => (intOf t).toNat)
      case atStart => exact ⟨j + 1, Nat.le_refl _, by go_num, HO.out, hbel⟩
      case round =>
        obtain ⟨s, hs, rfl, hown, hbel'⟩ := hrel
        clear HO hbel
        match s, hs, hown with
        | 0, _, hown =>
          rw [rowM_end] at hown
          have HO := Lib.hid hown
          clear hown
          go_wp2_with fail
          go_roundw
          case rel => exact ⟨j + 1, by omega, by go_num, HO.out, hbel'⟩
          case measure => simp [intOf]; omega
        | s + 1, hs, hown =>
          have g1 := hown.cell (s + 1) (by rw [rowL_len]; omega)
          have g0 := hown.cell s (by rw [rowL_len]; omega)
          have gf := hown.frozen (s + 1)
          rw [rowL_get] at g1 g0
          simp only [rowM, Nat.le_refl, if_true, Nat.le_add_right] at g1 g0
          obtain ⟨x, hx⟩ : ∃ x, x = pas p j (s + 1) := ⟨_, rfl⟩
          obtain ⟨y, hy⟩ : ∃ y, y = pas p j s := ⟨_, rfl⟩
          have hxb := HP.out j (s + 1)
          have hyb := HP.out j s
          have hstep := hown.set (s + 1) ((x + y) % p) (wf_of (by have := Int.emod_nonneg (x + y) (show p ≠ 0 by omega); omega) (by have := Int.emod_lt_of_pos (x + y) (show 0 < p by omega); omega))
          rw [hx, hy, rowM_step, ← hx, ← hy] at hstep
          rw [← hx] at g1 hxb
          rw [← hy] at g0 hyb
          have HS := Lib.hid hstep
          clear hx hy hstep hown
          go_wp2_with fail
          go_region
          all_goals
            go_wp2_with fail
            go_roundw
            case rel => exact ⟨s, by omega, by go_num, HS.out.drew, (hbel'.setCell (p := ⟨w.heap.size, s + 1, none⟩) (Nat.le_refl _) _).drew⟩
            case measure => simp [intOf]
    · obtain rfl : j = n := by omega
      cases hin : inB k 0 j with
      | false =>
        have e : r = 0 := by rw [HR.out]; simp [binv, hin]
        subst e
        have HI := Lib.hid hin
        clear hin
        go_wp2_with (go_at_call 196; refine (within_is k 0 j false HI.out _).mono ?_; rintro e w' ⟨rfl, rfl⟩)
        go_ret
        exact ⟨rfl, hbel⟩
      | true =>
        have e : r = pas p j k.toNat := by rw [HR.out]; simp [binv, hin]
        obtain ⟨h1, h2⟩ := inB_true.1 hin
        have HI := Lib.hid hin
        obtain ⟨k, rfl⟩ := Int.eq_ofNat_of_zero_le h1
        have g := hown.cell k (by rw [rowL_len]; omega)
        rw [rowL_get] at g
        simp only [Int.toNat_natCast] at e
        rw [← e] at g
        clear hin e h1
        go_wp2_with (go_at_call 196; refine (within_is (k : Int) 0 j true HI.out _).mono ?_; rintro e w' ⟨rfl, rfl⟩)
        go_ret
        exact ⟨rfl, hbel⟩

/-- What BinomialMod returns. -/
def bmv (n k p : Int) : Int := if inB n 0 60 = true ∧ inB k 0 n = true ∧ prmB p = true then pas p n.toNat k.toNat else -1

theorem bm_ways (n k p : Int) : inB n 0 60 = false ∨ (inB n 0 60 = true ∧ inB k 0 n = false) ∨ (inB n 0 60 = true ∧ inB k 0 n = true ∧ prmB p = false) ∨ (inB n 0 60 = true ∧ inB k 0 n = true ∧ prmB p = true) := by
  cases inB n 0 60 <;> cases inB k 0 n <;> cases prmB p <;> simp

set_option maxHeartbeats 1600000 in
theorem bm_impl (n k p : Int) (w : World) :
    Calls Try.prog 140 #[.int .i64 n, .int .i64 k, .int .i64 p] w fun e w' => e = .returned (.int .i64 (bmv n k p)) ∧ Below w.heap.size w w' := by
  rcases bm_ways n k p with h | ⟨h, h1⟩ | ⟨h, h1, h2⟩ | ⟨h, h1, h2⟩
  · have e : bmv n k p = -1 := by simp [bmv, h]
    rw [e]; clear e
    go_enter Try.func140, Try.ntmps140
    go_wp2_with fail
    refine (within_is n 0 60 false h _).mono ?_; rintro e w' ⟨rfl, rfl⟩
    go_wp2_with fail
    go_ret
    exact ⟨rfl, Below.refl _ _⟩
  · have e : bmv n k p = -1 := by simp [bmv, h1]
    rw [e]; clear e
    go_enter Try.func140, Try.ntmps140
    go_wp2_with fail
    refine (within_is n 0 60 true h _).mono ?_; rintro e w' ⟨rfl, rfl⟩
    go_wp2_with fail
    refine (within_is k 0 n false h1 _).mono ?_; rintro e w' ⟨rfl, rfl⟩
    go_wp2_with fail
    go_ret
    exact ⟨rfl, Below.refl _ _⟩
  · have e : bmv n k p = -1 := by simp [bmv, h2]
    rw [e]; clear e
    go_enter Try.func140, Try.ntmps140
    go_wp2_with fail
    refine (within_is n 0 60 true h _).mono ?_; rintro e w' ⟨rfl, rfl⟩
    go_wp2_with fail
    refine (within_is k 0 n true h1 _).mono ?_; rintro e w' ⟨rfl, rfl⟩
    go_wp2_with fail
    refine (isPrime_is p false h2 _).mono ?_; rintro e w' ⟨rfl, rfl⟩
    go_wp2_with fail
    go_ret
    exact ⟨rfl, Below.refl _ _⟩
  · have e : bmv n k p = pas p n.toNat k.toNat := by simp [bmv, h, h1, h2]
    rw [e]; clear e
    obtain ⟨g1, g2⟩ := prm_bd h2
    obtain ⟨g3, g4⟩ := inB_true.1 h
    obtain ⟨n, rfl⟩ := Int.eq_ofNat_of_zero_le g3
    have e : binv n k p = pas p n k.toNat := by simp [binv, h1]
    have C := Lib.hid (binomial_any n k p (by omega) g1 g2)
    rw [e] at C
    simp only [Int.toNat_natCast]
    obtain ⟨r, hr⟩ : ∃ r, r = pas p n k.toNat := ⟨_, rfl⟩
    rw [← hr] at C ⊢
    have HH := Lib.hid h
    have HH1 := Lib.hid h1
    have HH2 := Lib.hid h2
    clear hr e h h1 h2
    go_enter Try.func140, Try.ntmps140
    go_wp2_with fail
    refine (within_is (n : Int) 0 60 true HH.out _).mono ?_; rintro e w' ⟨rfl, rfl⟩
    go_wp2_with fail
    refine (within_is k 0 n true HH1.out _).mono ?_; rintro e w' ⟨rfl, rfl⟩
    go_wp2_with fail
    refine (isPrime_is p true HH2.out _).mono ?_; rintro e w' ⟨rfl, rfl⟩
    go_wp2_with fail
    refine (C.out _).mono ?_; rintro e w1 ⟨rfl, b1⟩
    go_wp2_with fail
    go_ret
    exact ⟨rfl, b1⟩

set_option maxHeartbeats 1600000 in
theorem bm_spec (n k p : Int) (w : World) :
    Calls Try.prog 143 #[.int .i64 n, .int .i64 k, .int .i64 p] w fun e w' => e = .returned (.int .i64 (bmv n k p)) ∧ Below w.heap.size w w' := by
  rcases bm_ways n k p with h | ⟨h, h1⟩ | ⟨h, h1, h2⟩ | ⟨h, h1, h2⟩
  · have e : bmv n k p = -1 := by simp [bmv, h]
    rw [e]; clear e
    go_enter Try.func143, Try.ntmps143
    go_wp2_with fail
    refine (l1In_is n 0 60 false h _).mono ?_; rintro e w' ⟨rfl, rfl⟩
    go_wp2_with fail
    go_ret
    exact ⟨rfl, Below.refl _ _⟩
  · have e : bmv n k p = -1 := by simp [bmv, h1]
    rw [e]; clear e
    go_enter Try.func143, Try.ntmps143
    go_wp2_with fail
    refine (l1In_is n 0 60 true h _).mono ?_; rintro e w' ⟨rfl, rfl⟩
    go_wp2_with fail
    refine (l1In_is k 0 n false h1 _).mono ?_; rintro e w' ⟨rfl, rfl⟩
    go_wp2_with fail
    go_ret
    exact ⟨rfl, Below.refl _ _⟩
  · have e : bmv n k p = -1 := by simp [bmv, h2]
    rw [e]; clear e
    go_enter Try.func143, Try.ntmps143
    go_wp2_with fail
    refine (l1In_is n 0 60 true h _).mono ?_; rintro e w' ⟨rfl, rfl⟩
    go_wp2_with fail
    refine (l1In_is k 0 n true h1 _).mono ?_; rintro e w' ⟨rfl, rfl⟩
    go_wp2_with fail
    refine (l26Prime_is p false h2 _).mono ?_; rintro e w' ⟨rfl, rfl⟩
    go_wp2_with fail
    go_ret
    exact ⟨rfl, Below.refl _ _⟩
  · have e : bmv n k p = pas p n.toNat k.toNat := by simp [bmv, h, h1, h2]
    rw [e]; clear e
    obtain ⟨hp1, hp2⟩ := prm_bd h2
    obtain ⟨g3, g4⟩ := inB_true.1 h
    obtain ⟨g5, g6⟩ := inB_true.1 h1
    have HH := Lib.hid h
    have HH1 := Lib.hid h1
    have HH2 := Lib.hid h2
    clear h h1 h2
    obtain ⟨n, rfl⟩ := Int.eq_ofNat_of_zero_le g3
    obtain ⟨k, rfl⟩ := Int.eq_ofNat_of_zero_le g5
    simp only [Int.toNat_natCast]
    have hb := pas_bd p hp1
    have HP := Lib.hid hb
    clear hb
    have e1 : 1 % p = 1 := Int.emod_eq_of_lt (by omega) (by omega)
    have hrow := row_first p k
    rw [e1] at hrow
    have HROW := Lib.hid hrow
    have hfin : pas p n k % p = pas p n k := Int.emod_eq_of_lt (HP.out n k).1 (HP.out n k).2
    have hrb := HP.out n k
    obtain ⟨r, hr⟩ : ∃ r, r = pas p n k := ⟨_, rfl⟩
    rw [← hr] at hfin hrb ⊢
    have HF := Lib.hid hfin
    have HR := Lib.hid hr
    clear hfin hr e1 hrow
    go_enter Try.func143, Try.ntmps143
    go_wp2_with fail
    refine (l1In_is (n : Int) 0 60 true HH.out _).mono ?_; rintro e w' ⟨rfl, rfl⟩
    go_wp2_with fail
    refine (l1In_is (k : Int) 0 n true HH1.out _).mono ?_; rintro e w' ⟨rfl, rfl⟩
    go_wp2_with fail
    refine (l26Prime_is p true HH2.out _).mono ?_; rintro e w' ⟨rfl, rfl⟩
    go_wp2_with (at_make; refine wpList_mk rfl _ _ rfl w.heap.size _ _ (k + 1) rfl rfl (by omega) (by omega) (by omega) (Nat.le_refl _) ?_)
    intro w1 o1 hb
    have b1 := hb _ (Below.refl _ _)
    have hc0 := o1.cell 0 (by simp)
    have hf0 := o1.frozen 0
    have o2 := o1.set 0 1 (by decide)
    rw [HROW.out] at o2
    have b2 := b1.setCell (p := ⟨w.heap.size, 0, none⟩) (Nat.le_refl _) (.int .i64 1)
    have O2 := Lib.hid o2
    clear o1 hb b1 o2
    go_wp2_with fail
    go_loopw [8] (fun i wr => ∃ j : Nat, j ≤ n ∧ i = .int .i64 (j + 1) ∧ OwnI wr w.heap.size (some ⟨w.heap.size, 0, none⟩) (k + 1) (rowL (pas p j) k) ∧ Below w.heap.size w wr) (fun i _ => (n + 1 - intOf i).toNat)
    case atStart => exact ⟨0, by omega, rfl, O2.out, b2⟩
    case round =>
      obtain ⟨j, hj, rfl, hown, hbel⟩ := hrel
      clear hc0 hf0 O2 b2
      by_cases hlt : (j : Int) + 1 ≤ n
      · rw [rowM_start p j k k (.inr (Nat.le_refl _))] at hown
        have HO := Lib.hid hown
        clear hown
        obtain ⟨wo, rfl⟩ : ∃ wo : World, wo = wr := ⟨_, rfl⟩
        go_wp2_with fail
        go_loopw [9] (fun t wr => ∃ s : Nat, s ≤ k ∧ t = .int .i64 s ∧ OwnI wr w.heap.size (some ⟨w.heap.size, 0, none⟩) (k + 1) (rowL (rowM p j s) k) ∧ Below w.heap.size w wr) (fun t _ => (intOf t).toNat)
        case atStart => exact ⟨k, Nat.le_refl _, by go_num, HO.out, hbel⟩
        case round =>
          obtain ⟨s, hs, rfl, hown, hbel'⟩ := hrel
          clear HO hbel
          match s, hs, hown with
          | 0, _, hown =>
            rw [rowM_end] at hown
            have HO := Lib.hid hown
            clear hown
            go_wp2_with fail
            go_roundw
            case rel => exact ⟨j + 1, by omega, by go_num, HO.out, hbel'⟩
            case measure => simp [intOf]; omega
          | s + 1, hs, hown =>
            have g1 := hown.cell (s + 1) (by rw [rowL_len]; omega)
            have g0 := hown.cell s (by rw [rowL_len]; omega)
            have gf := hown.frozen (s + 1)
            rw [rowL_get] at g1 g0
            simp only [rowM, Nat.le_refl, if_true, Nat.le_add_right] at g1 g0
            obtain ⟨x, hx⟩ : ∃ x, x = pas p j (s + 1) := ⟨_, rfl⟩
            obtain ⟨y, hy⟩ : ∃ y, y = pas p j s := ⟨_, rfl⟩
            have hxb := HP.out j (s + 1)
            have hyb := HP.out j s
            have hstep := hown.set (s + 1) ((x + y) % p) (wf_of (by have := Int.emod_nonneg (x + y) (show p ≠ 0 by omega); omega) (by have := Int.emod_lt_of_pos (x + y) (show 0 < p by omega); omega))
            rw [hx, hy, rowM_step, ← hx, ← hy] at hstep
            rw [← hx] at g1 hxb
            rw [← hy] at g0 hyb
            have HS := Lib.hid hstep
            clear hx hy hstep hown
            go_wp2_with fail
            go_region
            all_goals
              go_wp2_with fail
              go_roundw
              case rel => exact ⟨s, by omega, by go_num, HS.out.drew, (hbel'.setCell (p := ⟨w.heap.size, s + 1, none⟩) (Nat.le_refl _) _).drew⟩
              case measure => simp [intOf]
      · obtain rfl : j = n := by omega
        have g := hown.cell k (by rw [rowL_len]; omega)
        rw [rowL_get, ← HR.out] at g
        go_wp2_with fail
        go_ret
        exact ⟨ret_int HF.out, hbel⟩
end Go.Proofs.Ytbidkjhgodkamaa
