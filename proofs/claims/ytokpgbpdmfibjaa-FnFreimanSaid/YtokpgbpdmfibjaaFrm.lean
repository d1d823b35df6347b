/-
Contracts of both sides' IsFreimanMap and IsFreimanIso. Conditions: lengths at most 2000000.
-/
import Derived.Test.YtokpgbpdmfibjaaKei
import Derived.Test.YtokpgbpdmfibjaaKes
import Derived.Test.YtokpgbpdmfibjaaIom
namespace Go.Proofs.Ytokpgbpdmfibjaa
open Go.RowKit Go.ChangeShapes
set_option linter.unusedVariables false
set_option linter.unusedSimpArgs false

theorem imF_some {n : Nat} : ∀ (l : List Int) (a : Nat), (imF n l a).isSome = l.all fun x => decide (0 ≤ x ∧ x < (n : Int))
  | [], a => rfl
  | x :: t, a => by
    unfold imF
    rw [List.all_cons]
    split
    · rename_i h
      rw [imF_some t, decide_eq_true h, Bool.true_and]
    · rename_i h
      rw [decide_eq_false h]
      rfl
/-- Whether all numbers of a list lie below n. -/
def alB (n : Nat) (l : List Int) : Bool := l.all fun x => decide (0 ≤ x ∧ x < (n : Int))
theorem alB_drop {n k : Nat} {l : List Int} (h : k < l.length) : alB n (l.drop k) = (decide (0 ≤ l[k] ∧ l[k] < (n : Int)) && alB n (l.drop (k + 1))) := by
  rw [List.drop_eq_getElem_cons h]; rfl
theorem imB_eq (hs m : List Int) : imB hs m = (alB (ordN hs) m && grpB hs) := by unfold imB alB; rw [imF_some]
theorem imB_mem {hs m : List Int} (h : imB hs m = true) : grpB hs = true ∧ ∀ x ∈ m, 0 ≤ x ∧ x < (gn hs : Int) := by
  rw [imB_eq, Bool.and_eq_true] at h
  refine ⟨h.2, fun x hx => ?_⟩
  have := List.all_eq_true.1 h.1 x hx
  rw [ordN_grp h.2] at this
  exact of_decide_eq_true this
/-- What l15Fine says. -/
def fiB (os hs l m : List Int) : Bool := soB os l && (inB (l.length : Int) 1 6 && (decide (m.length = l.length) && imB hs m))
noncomputable def fmB (os hs l m : List Int) : Bool := fiB os hs l m && kpB os hs l m l.length
theorem fiB_parts {os hs l m : List Int} (h : fiB os hs l m = true) : soB os l = true ∧ (1 ≤ l.length ∧ l.length ≤ 6) ∧ m.length = l.length ∧ imB hs m = true := by
  unfold fiB at h
  simp only [Bool.and_eq_true, decide_eq_true_eq, inB_true] at h
  exact ⟨h.1, by omega, h.2.2.1, h.2.2.2⟩
noncomputable def fsB (os hs l m : List Int) : Bool := fmB os hs l m && fmB hs os m l
/-- Both boxes at the beginning. -/
theorem KpW.start (w : World) (ag : Option Addr) (cg : Nat) (os : List Int) (ah : Option Addr) (ch : Nat) (hs : List Int) : KpW w ag cg os ah ch hs ((w.alloc (.cells #[.slice ag os.length cg] 26)).alloc (.cells #[.slice ah hs.length ch] 26)) := by
  have ha := (Below.refl w.heap.size w).alloc (Nat.le_refl _) (.cells #[.slice ag os.length cg] 26)
  have hb := ha.alloc (by simp) (.cells #[.slice ah hs.length ch] 26)
  have hb2 := (Below.refl (w.alloc (.cells #[.slice ag os.length cg] 26)).heap.size (w.alloc (.cells #[.slice ag os.length cg] 26))).alloc (Nat.le_refl _) (.cells #[.slice ah hs.length ch] 26)
  refine ⟨hb, ?_, cell_of_one (new_at (by simp)), by simp⟩
  rw [hb2.cell (p := ⟨w.heap.size, 0, none⟩) (by simp)]
  exact cell_of_one (new_at rfl)
theorem so_parts' {os f : List Int} (h : soB os f = true) : grpB os = true ∧ ∃ a, soF (gn os) f 0 = some a ∧ soV os f = a := by
  unfold soB at h
  rw [Bool.and_eq_true] at h
  obtain ⟨h1, h2⟩ := h
  obtain ⟨a, ha⟩ := Option.isSome_iff_exists.1 h1
  exact ⟨h2, a, by rw [← ordN_grp h2]; exact ha, by simp [soV, ha]⟩
theorem so_lt' {os f : List Int} (h : soB os f = true) : ∀ x ∈ f, 0 ≤ x ∧ x < (gn os : Int) := by
  obtain ⟨hg, a, ha, hv⟩ := so_parts' h
  exact soF_mem ha
set_option maxRecDepth 20000 in
set_option maxHeartbeats 3200000 in
theorem fm_impl (ag : Option Addr) (cg : Nat) (os : List Int) (ah : Option Addr) (ch : Nat) (hs : List Int) (al : Option Addr) (cl : Nat) (l : List Int) (am : Option Addr) (cm : Nat) (m : List Int) (w : World) (h0 : Ints w ag cg os) (h1 : Ints w ah ch hs) (k0 : Ints w al cl l) (k1 : Ints w am cm m) (hol : os.length ≤ 2000000) (hhl : hs.length ≤ 2000000) (hll : l.length ≤ 2000000) (hml : m.length ≤ 2000000) :
    Calls Try.prog 53 #[.agg #[.slice ag os.length cg], .agg #[.slice ah hs.length ch], .slice al l.length cl, .slice am m.length cm] w fun e w' => e = .returned (.bool (fmB os hs l m)) ∧ Below w.heap.size w w' := by
  have HK : fiB os hs l m = true → ∀ w, Ints w ag cg os → Ints w ah ch hs → Ints w al cl l → Ints w am cm m → Calls Try.prog 120 #[.agg #[.slice ag os.length cg], .agg #[.slice ah hs.length ch], .slice al l.length cl, .slice am m.length cm] w fun e w' => e = .returned (.bool (kpB os hs l m l.length)) ∧ Below w.heap.size w w' := by
    intro hf w h0 h1 k0 k1
    obtain ⟨e1, e2, e3, e4⟩ := fiB_parts hf
    obtain ⟨hg, -⟩ := so_parts' e1
    obtain ⟨hh, e5⟩ := imB_mem e4
    have b1 := (grp_gn hg).2.2.1
    have b2 := (grp_gn hh).2.2.1
    have := keeps_impl ag cg os ah ch hs al cl l am cm m l.length w h0 h1 k0 k1 hg hh rfl e3 (by omega) (fun x hx => by have := so_lt' e1 x hx; omega) (fun x hx => by have := e5 x hx; omega)
    rw [← e3] at this
    rw [e3] at this ⊢
    exact this
  have X0 := KpW.start w ag cg os ah ch hs
  have C1 := Lib.hid (fun w h k => setOf_impl ag cg os al cl l w h k hol hll)
  have C2 := Lib.hid (fun w h k => iom_impl ah ch hs am cm m w h k hhl hml)
  have HFI : fiB os hs l m = (soB os l && (inB (l.length : Int) 1 6 && (decide (m.length = l.length) && imB hs m))) := rfl
  have HFM : fmB os hs l m = (fiB os hs l m && kpB os hs l m l.length) := rfl
  have WI := Lib.hid (within_any (l.length : Int) 1 6)
  obtain ⟨sv, hsv⟩ : ∃ v, v = soV os l := ⟨_, rfl⟩
  obtain ⟨sb, hsb⟩ : ∃ v, v = soB os l := ⟨_, rfl⟩
  obtain ⟨iv, hiv⟩ : ∃ v, v = imV hs m := ⟨_, rfl⟩
  obtain ⟨ib, hib⟩ : ∃ v, v = imB hs m := ⟨_, rfl⟩
  obtain ⟨nb, hnb⟩ : ∃ v, v = inB (l.length : Int) 1 6 := ⟨_, rfl⟩
  obtain ⟨fb, hfb⟩ : ∃ v, v = fiB os hs l m := ⟨_, rfl⟩
  obtain ⟨kb, hkb⟩ : ∃ v, v = kpB os hs l m l.length := ⟨_, rfl⟩
  obtain ⟨rb, hrb⟩ : ∃ v, v = fmB os hs l m := ⟨_, rfl⟩
  rw [← hsv, ← hsb] at C1
  rw [← hiv, ← hib] at C2
  rw [← hnb] at WI
  rw [← hfb, ← hsb, ← hnb, ← hib] at HFI
  rw [← hrb, ← hfb, ← hkb] at HFM
  rw [← hfb, ← hkb] at HK
  rw [← hrb]
  have HKH := Lib.hid HK
  clear hsv hsb hiv hib hnb hfb hkb hrb HK
  have q1 := X0.c1
  cases sb with
  | false =>
    have e : rb = false := by rw [HFM, HFI]; rfl
    subst e
    clear HFM HFI HKH WI
    go_enter Try.func53, Try.ntmps53
    go_wp2_with fail
    refine (C1.out _ (h0.below X0.bel (Nat.le_refl _)) (k0.below X0.bel (Nat.le_refl _))).mono ?_; rintro e w1 ⟨rfl, b⟩
    have X1 := X0.next b
    go_wp2_with fail
    go_ret
    exact ⟨rfl, X1.bel⟩
  | true =>
    cases nb with
    | false =>
      have e : rb = false := by rw [HFM, HFI]; rfl
      subst e
      clear HFM HFI HKH
      go_enter Try.func53, Try.ntmps53
      go_wp2_with fail
      refine (C1.out _ (h0.below X0.bel (Nat.le_refl _)) (k0.below X0.bel (Nat.le_refl _))).mono ?_; rintro e w1 ⟨rfl, b⟩
      have X1 := X0.next b
      go_wp2_with fail
      refine (WI.out _).mono ?_; rintro e w' ⟨rfl, rfl⟩
      go_wp2_with fail
      go_ret
      exact ⟨rfl, X1.bel⟩
    | true =>
      by_cases hlm : m.length = l.length
      · have hlb : ((m.length : Int) != (l.length : Int)) = false := by rw [hlm]; simp
        rw [decide_eq_true hlm] at HFI
        simp only [Bool.true_and] at HFI
        subst HFI
        clear hlm
        have q2 := X0.c2
        cases fb with
        | false =>
          have e : rb = false := by rw [HFM]; rfl
          subst e
          clear HFM HKH
          go_enter Try.func53, Try.ntmps53
          go_wp2_with fail
          refine (C1.out _ (h0.below X0.bel (Nat.le_refl _)) (k0.below X0.bel (Nat.le_refl _))).mono ?_; rintro e w1 ⟨rfl, b⟩
          have X1 := X0.next b
          have q1' := X1.c1
          have q2' := X1.c2
          clear X0 b q1 q2
          go_wp2_with fail
          refine (WI.out _).mono ?_; rintro e w' ⟨rfl, rfl⟩
          go_wp2_with fail
          refine (C2.out _ (h1.below X1.bel (Nat.le_refl _)) (k1.below X1.bel (Nat.le_refl _))).mono ?_; rintro e w2 ⟨rfl, b⟩
          have X2 := X1.next b
          go_wp2_with fail
          go_ret
          exact ⟨rfl, X2.bel⟩
        | true =>
          have e : rb = kb := by rw [HFM]; rfl
          subst e
          have HK2 := Lib.hid (HKH.out rfl)
          clear HFM HKH
          go_enter Try.func53, Try.ntmps53
          go_wp2_with fail
          refine (C1.out _ (h0.below X0.bel (Nat.le_refl _)) (k0.below X0.bel (Nat.le_refl _))).mono ?_; rintro e w1 ⟨rfl, b⟩
          have X1 := X0.next b
          have q1' := X1.c1
          have q2' := X1.c2
          clear X0 b q1 q2
          go_wp2_with fail
          refine (WI.out _).mono ?_; rintro e w' ⟨rfl, rfl⟩
          go_wp2_with fail
          refine (C2.out _ (h1.below X1.bel (Nat.le_refl _)) (k1.below X1.bel (Nat.le_refl _))).mono ?_; rintro e w2 ⟨rfl, b⟩
          have X2 := X1.next b
          have q1 := X2.c1
          have q2 := X2.c2
          clear X1 b q1' q2'
          go_wp2_with fail
          refine (HK2.out _ (h0.below X2.bel (Nat.le_refl _)) (h1.below X2.bel (Nat.le_refl _)) (k0.below X2.bel (Nat.le_refl _)) (k1.below X2.bel (Nat.le_refl _))).mono ?_; rintro e w3 ⟨rfl, b⟩
          have X3 := X2.next b
          go_wp2_with fail
          go_ret
          exact ⟨rfl, X3.bel⟩
      · have hlb : ((m.length : Int) != (l.length : Int)) = true := by simp; omega
        rw [decide_eq_false hlm] at HFI
        have e : rb = false := by rw [HFM, HFI]; rfl
        subst e
        clear HFM HFI HKH hlm
        go_enter Try.func53, Try.ntmps53
        go_wp2_with fail
        refine (C1.out _ (h0.below X0.bel (Nat.le_refl _)) (k0.below X0.bel (Nat.le_refl _))).mono ?_; rintro e w1 ⟨rfl, b⟩
        have X1 := X0.next b
        go_wp2_with fail
        refine (WI.out _).mono ?_; rintro e w' ⟨rfl, rfl⟩
        go_wp2_with fail
        go_ret
        exact ⟨rfl, X1.bel⟩
set_option maxRecDepth 20000 in
set_option maxHeartbeats 6400000 in
theorem fine_spec (ag : Option Addr) (cg : Nat) (os : List Int) (ah : Option Addr) (ch : Nat) (hs : List Int) (al : Option Addr) (cl : Nat) (l : List Int) (am : Option Addr) (cm : Nat) (m : List Int) (w : World) (h0 : Ints w ag cg os) (h1 : Ints w ah ch hs) (k0 : Ints w al cl l) (k1 : Ints w am cm m) (hol : os.length ≤ 2000000) (hhl : hs.length ≤ 2000000) (hll : l.length ≤ 2000000) (hml : m.length ≤ 2000000) :
    Calls Try.prog 129 #[.agg #[.slice ag os.length cg], .agg #[.slice ah hs.length ch], .slice al l.length cl, .slice am m.length cm] w fun e w' => e = .returned (.bool (fiB os hs l m)) ∧ Below w.heap.size w w' := by
  have X0 := KpW.start w ag cg os ah ch hs
  have C1 := Lib.hid (fun w h k => setOf_spec ag cg os al cl l w h k hol hll)
  have CH := Lib.hid (fun x w h => l2Is_any ah ch hs x w h hhl)
  have CG := Lib.hid (fun w h => isGroup_spec ah ch hs w h hhl)
  have HFI : fiB os hs l m = (soB os l && (inB (l.length : Int) 1 6 && (decide (m.length = l.length) && imB hs m))) := rfl
  rw [imB_eq] at HFI
  have WI := Lib.hid (l1In_any (l.length : Int) 1 6)
  obtain ⟨sv, hsv⟩ : ∃ v, v = soV os l := ⟨_, rfl⟩
  obtain ⟨sb, hsb⟩ : ∃ v, v = soB os l := ⟨_, rfl⟩
  obtain ⟨N, hN⟩ : ∃ v, v = ordN hs := ⟨_, rfl⟩
  obtain ⟨G, hG⟩ : ∃ v, v = grpB hs := ⟨_, rfl⟩
  obtain ⟨nb, hnb⟩ : ∃ v, v = inB (l.length : Int) 1 6 := ⟨_, rfl⟩
  obtain ⟨fb, hfb⟩ : ∃ v, v = fiB os hs l m := ⟨_, rfl⟩
  obtain ⟨ab, hab⟩ : ∃ v, v = alB N m := ⟨_, rfl⟩
  rw [← hsv, ← hsb] at C1
  rw [← hN] at CH
  rw [← hG] at CG
  rw [← hnb] at WI
  rw [← hfb, ← hsb, ← hnb, ← hN, ← hab, ← hG] at HFI
  rw [← hfb]
  have HA0 : Hid (alB N (m.drop 0) = ab) := Lib.hid (by rw [hab]; rfl)
  have HF := Lib.hid HFI
  have HCS := Lib.hid k1.2.2.2.2
  have hwm := Lib.hid k1.2.2.2.1
  clear hsv hsb hN hG hnb hfb hab HFI
  have q1 := X0.c1
  go_enter Try.func129, Try.ntmps129
  go_wp2_with fail
  refine (C1.out _ (h0.below X0.bel (Nat.le_refl _)) (k0.below X0.bel (Nat.le_refl _))).mono ?_; rintro e w1 ⟨rfl, b⟩
  have X1 := X0.next b
  clear X0 b q1 C1
  go_wp2_with fail
  go_loopw [11] (fun vi wr => ∃ k : Nat, k ≤ m.length ∧ vi = .int .i64 (k : Int) ∧ Hid (alB N (m.drop k) = ab) ∧ KpW w ag cg os ah ch hs wr) (fun vi _ => m.length - (intOf vi).toNat)
  case atStart => exact ⟨0, by omega, rfl, HA0, X1⟩
  case round =>
    clear X1 HA0
    obtain ⟨k, hk, rfl, HA, X⟩ := hrel
    by_cases hlk : k < m.length
    · rcases HCS.out with hcs | ⟨b, off, rfl, hbB, hcell⟩
      · subst hcs; simp at hlk
      have d1 := (X.bel.cell (p := ⟨b, off + k, none⟩) hbB).trans (hcell k hlk)
      have hst := alB_drop (n := N) hlk
      rw [HA.out] at hst
      have hwx := hwm.out _ (List.getElem_mem hlk)
      obtain ⟨x, hx⟩ : ∃ x, x = m[k] := ⟨_, rfl⟩
      rw [← hx] at d1 hst hwx
      have CX := Lib.hid (CH.out x wr.drew (h1.below X.drew.bel (Nat.le_refl _)))
      have hlk2 : (k : Int) < m.length := by omega
      have zb : b < wr.heap.size := Nat.lt_of_lt_of_le hbB X.bel.size
      have q2 := X.c2
      have z2 := X.lt
      clear hcell hx
      cases hin : decide (0 ≤ x ∧ x < (N : Int)) with
      | true =>
        rw [hin] at CX hst
        rw [Bool.true_and] at hst
        have HST := Lib.hid hst.symm
        clear hst hin HA
        go_wp2_with fail
        go_region_held3 (fun w' => w'.cell? ⟨w.heap.size + 1, 0, none⟩ = some (.slice ah hs.length ch) ∧ w'.cell? ⟨b, off + k, none⟩ = some (.int .i64 x)) (exact ⟨by assumption, by assumption⟩) (first
          | (go_at_call 93; refine CX.out.mono ?_; rintro e w4 ⟨rfl, b4⟩; have q4 := (b4.cell (p := ⟨w.heap.size + 1, 0, none⟩) z2).trans q2; have d4 := (b4.cell (p := ⟨b, off + k, none⟩) zb).trans d1))
        have X4 := X.drew.next b4
        clear b4 q2 z2 d1 X
        go_wp2_with fail
        go_roundw
        case rel => exact ⟨k + 1, by omega, by go_num, HST, X4⟩
        case measure => simp [intOf]; omega
      | false =>
        rw [hin] at CX hst
        have e : fb = false := by rw [HF.out, hst]; simp
        subst e
        clear hst hin HA
        go_wp2_with fail
        go_region_held3 (fun w' => w'.cell? ⟨w.heap.size + 1, 0, none⟩ = some (.slice ah hs.length ch) ∧ w'.cell? ⟨b, off + k, none⟩ = some (.int .i64 x)) (exact ⟨by assumption, by assumption⟩) (first
          | (go_at_call 93; refine CX.out.mono ?_; rintro e w4 ⟨rfl, b4⟩; have q4 := (b4.cell (p := ⟨w.heap.size + 1, 0, none⟩) z2).trans q2; have d4 := (b4.cell (p := ⟨b, off + k, none⟩) zb).trans d1))
        have X4 := X.drew.next b4
        go_wp2_with fail
        go_ret
        exact ⟨rfl, X4.bel⟩
    · obtain rfl : k = m.length := by omega
      have e := HA.out
      rw [List.drop_length] at e
      have ea : ab = true := e.symm
      have q2 := X.c2
      have HF2 : Hid (fb = (sb && (nb && (decide (m.length = l.length) && G)))) := Lib.hid (by rw [HF.out, ea, Bool.true_and])
      clear e ea HA HF HCS hlk hk
      cases sb with
      | false =>
        have e : fb = false := HF2.out
        subst e
        go_wp2_with fail
        go_ret
        exact ⟨rfl, X.bel⟩
      | true =>
        go_wp2_with fail
        refine (CG.out _ (h1.below X.bel (Nat.le_refl _))).mono ?_; rintro e w4 ⟨rfl, b⟩
        have X4 := X.next b
        clear X b q2
        cases G with
        | false =>
          have e : fb = false := by rw [HF2.out]; simp
          subst e
          go_wp2_with fail
          go_ret
          exact ⟨rfl, X4.bel⟩
        | true =>
          by_cases hlm : m.length = l.length
          · have hlb : ((l.length : Int) == (m.length : Int)) = true := by rw [hlm]; simp
            have e : fb = nb := by rw [HF2.out, decide_eq_true hlm]; simp
            subst e
            clear hlm HF2
            go_wp2_with fail
            refine (WI.out _).mono ?_; rintro e w' ⟨rfl, rfl⟩
            go_wp2_with fail
            go_ret
            exact ⟨rfl, X4.bel⟩
          · have hlb : ((l.length : Int) == (m.length : Int)) = false := by simp; omega
            have e : fb = false := by rw [HF2.out, decide_eq_false hlm]; simp
            subst e
            clear hlm HF2
            go_wp2_with fail
            go_ret
            exact ⟨rfl, X4.bel⟩
set_option maxRecDepth 20000 in
set_option maxHeartbeats 3200000 in
theorem fm_spec (ag : Option Addr) (cg : Nat) (os : List Int) (ah : Option Addr) (ch : Nat) (hs : List Int) (al : Option Addr) (cl : Nat) (l : List Int) (am : Option Addr) (cm : Nat) (m : List Int) (w : World) (h0 : Ints w ag cg os) (h1 : Ints w ah ch hs) (k0 : Ints w al cl l) (k1 : Ints w am cm m) (hol : os.length ≤ 2000000) (hhl : hs.length ≤ 2000000) (hll : l.length ≤ 2000000) (hml : m.length ≤ 2000000) :
    Calls Try.prog 72 #[.agg #[.slice ag os.length cg], .agg #[.slice ah hs.length ch], .slice al l.length cl, .slice am m.length cm] w fun e w' => e = .returned (.bool (fmB os hs l m)) ∧ Below w.heap.size w w' := by
  have HK : fiB os hs l m = true → ∀ w, Ints w ag cg os → Ints w ah ch hs → Ints w al cl l → Ints w am cm m → Calls Try.prog 130 #[.agg #[.slice ag os.length cg], .agg #[.slice ah hs.length ch], .slice al l.length cl, .slice am m.length cm] w fun e w' => e = .returned (.bool (kpB os hs l m l.length)) ∧ Below w.heap.size w w' := by
    intro hf w h0 h1 k0 k1
    obtain ⟨e1, e2, e3, e4⟩ := fiB_parts hf
    obtain ⟨hg, -⟩ := so_parts' e1
    obtain ⟨hh, e5⟩ := imB_mem e4
    have b1 := (grp_gn hg).2.2.1
    have b2 := (grp_gn hh).2.2.1
    have := keeps_spec ag cg os ah ch hs al cl l am cm m l.length w h0 h1 k0 k1 hg hh rfl e3 (by omega) (fun x hx => by have := so_lt' e1 x hx; omega) (fun x hx => by have := e5 x hx; omega)
    rw [← e3] at this
    rw [e3] at this ⊢
    exact this
  have C1 := Lib.hid (fun w h0 h1 k0 k1 => fine_spec ag cg os ah ch hs al cl l am cm m w h0 h1 k0 k1 hol hhl hll hml)
  have HR : fmB os hs l m = (fiB os hs l m && kpB os hs l m l.length) := rfl
  obtain ⟨b1, hb1⟩ : ∃ v, v = fiB os hs l m := ⟨_, rfl⟩
  obtain ⟨b2, hb2⟩ : ∃ v, v = kpB os hs l m l.length := ⟨_, rfl⟩
  obtain ⟨rb, hrb⟩ : ∃ v, v = fmB os hs l m := ⟨_, rfl⟩
  rw [← hb1] at C1 HK
  rw [← hb2] at HK
  rw [← hrb, ← hb1, ← hb2] at HR
  rw [← hrb]
  have C2 := Lib.hid HK
  clear HK hb1 hb2 hrb
  have X0 := KpW.start w ag cg os ah ch hs
  have q1 := X0.c1
  have q2 := X0.c2
  cases b1 with
  | false =>
    have e : rb = false := by rw [HR]; rfl
    subst e
    clear HR
    go_enter Try.func72, Try.ntmps72
    go_wp2_with fail
    refine (C1.out _ (h0.below X0.bel (Nat.le_refl _)) (h1.below X0.bel (Nat.le_refl _)) (k0.below X0.bel (Nat.le_refl _)) (k1.below X0.bel (Nat.le_refl _))).mono ?_; rintro e w1 ⟨rfl, b⟩
    have X1 := X0.next b
    go_wp2_with fail
    go_ret
    exact ⟨rfl, X1.bel⟩
  | true =>
    have e : rb = b2 := by rw [HR]; rfl
    subst e
    have C3 := Lib.hid (C2.out rfl)
    clear HR C2
    go_enter Try.func72, Try.ntmps72
    go_wp2_with fail
    refine (C1.out _ (h0.below X0.bel (Nat.le_refl _)) (h1.below X0.bel (Nat.le_refl _)) (k0.below X0.bel (Nat.le_refl _)) (k1.below X0.bel (Nat.le_refl _))).mono ?_; rintro e w1 ⟨rfl, b⟩
    have X1 := X0.next b
    have q1' := X1.c1
    have q2' := X1.c2
    clear X0 b q1 q2
    go_wp2_with fail
    refine (C3.out _ (h0.below X1.bel (Nat.le_refl _)) (h1.below X1.bel (Nat.le_refl _)) (k0.below X1.bel (Nat.le_refl _)) (k1.below X1.bel (Nat.le_refl _))).mono ?_; rintro e w2 ⟨rfl, b⟩
    have X2 := X1.next b
    go_wp2_with fail
    go_ret
    exact ⟨rfl, X2.bel⟩
set_option maxRecDepth 20000 in
set_option maxHeartbeats 3200000 in
theorem fs_impl (ag : Option Addr) (cg : Nat) (os : List Int) (ah : Option Addr) (ch : Nat) (hs : List Int) (al : Option Addr) (cl : Nat) (l : List Int) (am : Option Addr) (cm : Nat) (m : List Int) (w : World) (h0 : Ints w ag cg os) (h1 : Ints w ah ch hs) (k0 : Ints w al cl l) (k1 : Ints w am cm m) (hol : os.length ≤ 2000000) (hhl : hs.length ≤ 2000000) (hll : l.length ≤ 2000000) (hml : m.length ≤ 2000000) :
    Calls Try.prog 51 #[.agg #[.slice ag os.length cg], .agg #[.slice ah hs.length ch], .slice al l.length cl, .slice am m.length cm] w fun e w' => e = .returned (.bool (fsB os hs l m)) ∧ Below w.heap.size w w' := by
  have C1 := Lib.hid (fun w h0 h1 k0 k1 => fm_impl ag cg os ah ch hs al cl l am cm m w h0 h1 k0 k1 hol hhl hll hml)
  have C2 := Lib.hid (fun (_ : fmB os hs l m = true) w h1 h0 k1 k0 => fm_impl ah ch hs ag cg os am cm m al cl l w h1 h0 k1 k0 hhl hol hml hll)
  have HR : fsB os hs l m = (fmB os hs l m && fmB hs os m l) := rfl
  obtain ⟨b1, hb1⟩ : ∃ v, v = fmB os hs l m := ⟨_, rfl⟩
  obtain ⟨b2, hb2⟩ : ∃ v, v = fmB hs os m l := ⟨_, rfl⟩
  obtain ⟨rb, hrb⟩ : ∃ v, v = fsB os hs l m := ⟨_, rfl⟩
  rw [← hb1] at C1 C2
  rw [← hb2] at C2
  rw [← hrb, ← hb1, ← hb2] at HR
  rw [← hrb]
  clear hb1 hb2 hrb
  have X0 := KpW.start w ag cg os ah ch hs
  have q1 := X0.c1
  have q2 := X0.c2
  cases b1 with
  | false =>
    have e : rb = false := by rw [HR]; rfl
    subst e
    clear HR
    go_enter Try.func51, Try.ntmps51
    go_wp2_with fail
    refine (C1.out _ (h0.below X0.bel (Nat.le_refl _)) (h1.below X0.bel (Nat.le_refl _)) (k0.below X0.bel (Nat.le_refl _)) (k1.below X0.bel (Nat.le_refl _))).mono ?_; rintro e w1 ⟨rfl, b⟩
    have X1 := X0.next b
    go_wp2_with fail
    go_ret
    exact ⟨rfl, X1.bel⟩
  | true =>
    have e : rb = b2 := by rw [HR]; rfl
    subst e
    have C3 := Lib.hid (C2.out rfl)
    clear HR C2
    go_enter Try.func51, Try.ntmps51
    go_wp2_with fail
    refine (C1.out _ (h0.below X0.bel (Nat.le_refl _)) (h1.below X0.bel (Nat.le_refl _)) (k0.below X0.bel (Nat.le_refl _)) (k1.below X0.bel (Nat.le_refl _))).mono ?_; rintro e w1 ⟨rfl, b⟩
    have X1 := X0.next b
    have q1' := X1.c1
    have q2' := X1.c2
    clear X0 b q1 q2
    go_wp2_with fail
    refine (C3.out _ (h1.below X1.bel (Nat.le_refl _)) (h0.below X1.bel (Nat.le_refl _)) (k1.below X1.bel (Nat.le_refl _)) (k0.below X1.bel (Nat.le_refl _))).mono ?_; rintro e w2 ⟨rfl, b⟩
    have X2 := X1.next b
    go_wp2_with fail
    go_ret
    exact ⟨rfl, X2.bel⟩
set_option maxRecDepth 20000 in
set_option maxHeartbeats 3200000 in
theorem fs_spec (ag : Option Addr) (cg : Nat) (os : List Int) (ah : Option Addr) (ch : Nat) (hs : List Int) (al : Option Addr) (cl : Nat) (l : List Int) (am : Option Addr) (cm : Nat) (m : List Int) (w : World) (h0 : Ints w ag cg os) (h1 : Ints w ah ch hs) (k0 : Ints w al cl l) (k1 : Ints w am cm m) (hol : os.length ≤ 2000000) (hhl : hs.length ≤ 2000000) (hll : l.length ≤ 2000000) (hml : m.length ≤ 2000000) :
    Calls Try.prog 52 #[.agg #[.slice ag os.length cg], .agg #[.slice ah hs.length ch], .slice al l.length cl, .slice am m.length cm] w fun e w' => e = .returned (.bool (fsB os hs l m)) ∧ Below w.heap.size w w' := by
  have C1 := Lib.hid (fun w h0 h1 k0 k1 => fm_spec ag cg os ah ch hs al cl l am cm m w h0 h1 k0 k1 hol hhl hll hml)
  have C2 := Lib.hid (fun (_ : fmB os hs l m = true) w h1 h0 k1 k0 => fm_spec ah ch hs ag cg os am cm m al cl l w h1 h0 k1 k0 hhl hol hml hll)
  have HR : fsB os hs l m = (fmB os hs l m && fmB hs os m l) := rfl
  obtain ⟨b1, hb1⟩ : ∃ v, v = fmB os hs l m := ⟨_, rfl⟩
  obtain ⟨b2, hb2⟩ : ∃ v, v = fmB hs os m l := ⟨_, rfl⟩
  obtain ⟨rb, hrb⟩ : ∃ v, v = fsB os hs l m := ⟨_, rfl⟩
  rw [← hb1] at C1 C2
  rw [← hb2] at C2
  rw [← hrb, ← hb1, ← hb2] at HR
  rw [← hrb]
  clear hb1 hb2 hrb
  have X0 := KpW.start w ag cg os ah ch hs
  have q1 := X0.c1
  have q2 := X0.c2
  cases b1 with
  | false =>
    have e : rb = false := by rw [HR]; rfl
    subst e
    clear HR
    go_enter Try.func52, Try.ntmps52
    go_wp2_with fail
    refine (C1.out _ (h0.below X0.bel (Nat.le_refl _)) (h1.below X0.bel (Nat.le_refl _)) (k0.below X0.bel (Nat.le_refl _)) (k1.below X0.bel (Nat.le_refl _))).mono ?_; rintro e w1 ⟨rfl, b⟩
    have X1 := X0.next b
    go_wp2_with fail
    go_ret
    exact ⟨rfl, X1.bel⟩
  | true =>
    have e : rb = b2 := by rw [HR]; rfl
    subst e
    have C3 := Lib.hid (C2.out rfl)
    clear HR C2
    go_enter Try.func52, Try.ntmps52
    go_wp2_with fail
    refine (C1.out _ (h0.below X0.bel (Nat.le_refl _)) (h1.below X0.bel (Nat.le_refl _)) (k0.below X0.bel (Nat.le_refl _)) (k1.below X0.bel (Nat.le_refl _))).mono ?_; rintro e w1 ⟨rfl, b⟩
    have X1 := X0.next b
    have q1' := X1.c1
    have q2' := X1.c2
    clear X0 b q1 q2
    go_wp2_with fail
    refine (C3.out _ (h1.below X1.bel (Nat.le_refl _)) (h0.below X1.bel (Nat.le_refl _)) (k1.below X1.bel (Nat.le_refl _)) (k0.below X1.bel (Nat.le_refl _))).mono ?_; rintro e w2 ⟨rfl, b⟩
    have X2 := X1.next b
    go_wp2_with fail
    go_ret
    exact ⟨rfl, X2.bel⟩
end Go.Proofs.Ytokpgbpdmfibjaa
