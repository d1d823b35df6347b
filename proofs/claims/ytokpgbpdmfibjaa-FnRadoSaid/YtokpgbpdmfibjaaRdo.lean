/-
Contracts of both sides' RadoNumber. Conditions: lengths at most 2000000.
-/
import Derived.Test.YtokpgbpdmfibjaaSlv8
import Derived.Test.YtokpgbpdmfibjaaSol2
import Derived.Outline
namespace Go.Proofs.Ytokpgbpdmfibjaa
open Go.RowKit Go.ChangeShapes
set_option linter.unusedVariables false

theorem moB_has {c cs : List Int} (he : eqnB c = true) (h1 : 1 ≤ cs.length) (h2 : cs.length ≤ 12) : moB c cs = hasM c cs := by
  have hi : inB (cs.length : Int) 1 12 = true := inB_true.2 (by omega)
  unfold moB moF hasM
  rw [if_pos ⟨he, hi⟩, any_find]
/-- Whether there is a number, and the number. -/
def raB (c : List Int) (k : Int) : Bool := eqnB c && (decide (c.length ≤ 3) && inB k 1 2)
def raV (c : List Int) (k : Int) : Int := if raB c k = true then radoF c k.toNat 9 1 else -1

set_option maxRecDepth 20000 in
set_option maxHeartbeats 3200000 in
theorem avoids_any (w0 : World) (a0 : Option Addr) (c0 : Nat) (c : List Int) (k n : Nat) (hI : Ints w0 a0 c0 c) (he : eqnB c = true) (hk : k ≤ 2) (hn : n ≤ 9) :
    ∀ (f : Nat) (cs : List Int) (a1 : Option Addr) (c1 : Nat) (w : World), cs.length + f = n → Ints w a1 c1 cs → Below w0.heap.size w0 w →
    Calls Try.prog 118 #[.slice a0 c.length c0, .int .i64 (k : Int), .int .i64 (n : Int), .slice a1 cs.length c1] w fun e w' => e = .returned (.bool (avB c k f cs)) ∧ Below w.heap.size w w' := by
  have hc4 := (eqn_bd he).1
  have HE := Lib.hid he
  have hcp : 0 < c.length := by obtain ⟨h1, _⟩ := eqn_parts he; omega
  clear he
  intro f
  induction f with
  | zero =>
    intro cs a1 c1 w hf h1 hbel
    obtain rfl : cs.length = n := by omega
    have hr : avB c k 0 cs = !hasM c cs := rfl
    rw [hr]
    by_cases h0 : cs.length = 0
    · have hcs : cs = [] := List.eq_nil_of_length_eq_zero h0
      have hh : hasM c cs = false := by rw [hcs]; exact hasM_nil hcp
      rw [hh]
      have z1 : decide ((0 : Int) < (cs.length : Int)) = false := by simp [hcs]
      have z2 : decide (0 < cs.length) = false := by simp [hcs]
      clear hcs hh h0 hr hf
      go_enter Try.func118, Try.ntmps118
      go_wp2_with fail
      go_ret
      exact ⟨rfl, Below.refl _ _⟩
    · have z1 : (0 : Int) < cs.length := by omega
      have z2 : 0 < cs.length := by omega
      have CM := mo_spec a0 c0 c a1 c1 cs w (hI.below hbel (Nat.le_refl _)) h1 (by omega) (by omega)
      rw [moB_has HE.out (by omega) (by omega)] at CM
      have CM1 := Lib.hid CM
      clear CM hr hf h0
      cases hh : hasM c cs with
      | true =>
        rw [hh] at CM1
        clear hh
        go_enter Try.func118, Try.ntmps118
        go_wp2_with fail
        refine CM1.out.mono ?_; rintro e w2 ⟨a2, c2, rfl, o2, b2⟩
        go_wp2_with fail
        go_ret
        exact ⟨rfl, b2⟩
      | false =>
        rw [hh] at CM1
        clear hh
        go_enter Try.func118, Try.ntmps118
        go_wp2_with fail
        refine CM1.out.mono ?_; rintro e w2 ⟨a2, c2, rfl, o2, b2⟩
        go_wp2_with fail
        go_ret
        exact ⟨rfl, b2⟩
  | succ f ih =>
    intro cs a1 c1 w hf h1 hbel
    have IH := Lib.hid ih
    have hne : ((cs.length : Int) == n) = false := by rw [beq_eq_false_iff_ne]; omega
    have hcl : cs.length ≤ 9 := by omega
    have HF := Lib.hid hf
    have HR : Hid (avB c k (f + 1) cs = (!hasM c cs && (List.range k).any fun x => avB c k f (cs ++ [(x : Int)]))) := Lib.hid rfl
    have hcase : (hasM c cs = true ∧ 0 < cs.length) ∨ (hasM c cs = false ∧ cs.length = 0) ∨ (hasM c cs = false ∧ 0 < cs.length) := by
      rcases Nat.eq_zero_or_pos cs.length with h | h
      · right; left
        exact ⟨by rw [List.eq_nil_of_length_eq_zero h]; exact hasM_nil hcp, h⟩
      · cases hh : hasM c cs with
        | true => exact .inl ⟨rfl, h⟩
        | false => exact .inr (.inr ⟨rfl, h⟩)
    obtain ⟨r, hr⟩ : ∃ r, r = avB c k (f + 1) cs := ⟨_, rfl⟩
    rw [← hr] at HR ⊢
    clear ih hf hr
    have CM : 0 < cs.length → Hid (Calls Try.prog 44 #[.slice a0 c.length c0, .slice a1 cs.length c1] w (GaveIB w (moL c cs) (hasM c cs))) := fun h => by
      have := mo_spec a0 c0 c a1 c1 cs w (hI.below hbel (Nat.le_refl _)) h1 (by omega) (by omega)
      rw [moB_has HE.out (by omega) (by omega)] at this
      exact this
    rcases hcase with ⟨hh, h0⟩ | ⟨hh, h0⟩ | ⟨hh, h0⟩
    · have CM1 := CM h0
      rw [hh] at CM1
      have e : r = false := by rw [HR.out, hh]; rfl
      subst e
      have z1 : (0 : Int) < cs.length := by omega
      clear CM hh HR
      go_enter Try.func118, Try.ntmps118
      go_wp2_with fail
      refine CM1.out.mono ?_; rintro e w2 ⟨a2, c2, rfl, o2, b2⟩
      go_wp2_with fail
      go_ret
      exact ⟨rfl, b2⟩
    · have z1 : decide ((0 : Int) < (cs.length : Int)) = false := by simp [List.eq_nil_of_length_eq_zero h0]
      have z2 : decide (0 < cs.length) = false := by simp [List.eq_nil_of_length_eq_zero h0]
      clear CM h0
      have HH0 := Lib.hid hh
      clear hh
      go_enter Try.func118, Try.ntmps118
      go_wp2_with fail
      have hh := HH0.out
      go_loopw [11] (fun vx wr => ∃ j : Nat, j ≤ k ∧ vx = .int .i64 (j : Int) ∧ Hid (∀ i, i < j → avB c k f (cs ++ [(i : Int)]) = false) ∧ Below w.heap.size w wr) (fun vx _ => (k - intOf vx).toNat)
      case atStart => exact ⟨0, by omega, rfl, Lib.hid (fun i h => by omega), Below.refl _ _⟩
      case round =>
        obtain ⟨j, hj, rfl, HG, hb⟩ := hrel
        by_cases hlt : j < k
        · have h2 := (h1.below hb (Nat.le_refl _)).alloc (.cells #[] 3)
          have hm := OwnI.made wr wr.heap.size (Nat.le_refl _)
          have hb1 := (Below.refl wr.heap.size wr).alloc (Nat.le_refl _) (.cells #[] 3)
          have hl0 : ([] : List Int).length ≤ 2000000 := by simp
          have hl1 : cs.length ≤ 2000000 := by omega
          have hsz : wr.heap.size ≤ (wr.alloc (.cells #[] 3)).heap.size := by simp
          go_wp2_with (at_builtin; refine wpList_appAll rfl (.tmp 34) (.tmp 35) rfl wr.heap.size _ _ [] _ _ cs rfl rfl hm h2 hl0 hl1 hsz ?_)
          intro a2 c2 w1 o1 hg2
          have hb3 := hg2 _ hb1
          have hwj : (Lit.int .i64 (j : Int)).wf = true := wf_of (by omega) (by omega)
          clear hb1 hg2 hm h2 hl0
          go_wp2_with (at_builtin; refine wpList_app rfl (.tmp 36) (.tmp 38) rfl wr.heap.size _ _ _ _ rfl rfl o1 hwj hl1 hb3.size ?_)
          intro a3 c3 w2 o2 hg4
          have hb5 := hg4 _ hb3
          have hlen2 : (cs ++ [(j : Int)]).length = cs.length + 1 := by simp
          have hbw2 := nx hb hb5
          have CI := Lib.hid (IH.out (cs ++ [(j : Int)]) a3 c3 w2 (by have := HF.out; omega) o2.ints (hbel.trans (hbw2.mono hbel.size)))
          rw [hlen2] at CI
          have HNX : Hid (avB c k f (cs ++ [(j : Int)]) = false → ∀ i, i < j + 1 → avB c k f (cs ++ [(i : Int)]) = false) := Lib.hid (fun h i hi => by
            by_cases e : i = j
            · subst e; exact h
            · exact HG.out i (by omega))
          have HYES : Hid (avB c k f (cs ++ [(j : Int)]) = true → r = true) := Lib.hid (fun h => by
            rw [HR.out, hh, Bool.not_false, Bool.true_and, List.any_eq_true]
            exact ⟨j, List.mem_range.2 hlt, h⟩)
          obtain ⟨q, hq⟩ : ∃ q, q = avB c k f (cs ++ [(j : Int)]) := ⟨_, rfl⟩
          rw [← hq] at CI HNX HYES
          clear hg4 hb3 o1 o2 hlen2 hwj hl1 hq HG hb5 hb
          cases q with
          | true =>
            have e := HYES.out rfl
            subst e
            clear HNX HYES HR hh
            go_wp2_with fail
            refine CI.out.mono ?_; rintro e w3 ⟨rfl, b3⟩
            go_wp2_with fail
            go_ret
            exact ⟨rfl, nx hbw2 b3⟩
          | false =>
            have HG2 := Lib.hid (HNX.out rfl)
            have HH := Lib.hid hh
            clear HNX HYES hh
            go_wp2_with fail
            refine CI.out.mono ?_; rintro e w3 ⟨rfl, b3⟩
            go_wp2_with fail
            go_roundw
            case rel => exact ⟨j + 1, by omega, by go_num, HG2, nx hbw2 b3⟩
            case measure => simp [intOf]; omega
        · obtain rfl : j = k := by omega
          have e : r = false := by
            rw [HR.out, hh, Bool.not_false, Bool.true_and, List.any_eq_false]
            intro i hi
            rw [HG.out i (List.mem_range.1 hi)]; decide
          subst e
          clear HR hh HG
          go_wp2_with fail
          go_ret
          exact ⟨rfl, hb⟩
    · have CM1 := CM h0
      rw [hh] at CM1
      have z1 : (0 : Int) < cs.length := by omega
      have HH0 := Lib.hid hh
      clear CM hh
      go_enter Try.func118, Try.ntmps118
      go_wp2_with fail
      refine CM1.out.mono ?_; rintro e w2 ⟨a2, c2, rfl, o2, b2⟩
      have B2 := b2
      clear o2 CM1 b2
      go_wp2_with fail
      have hh := HH0.out
      go_loopw [11] (fun vx wr => ∃ j : Nat, j ≤ k ∧ vx = .int .i64 (j : Int) ∧ Hid (∀ i, i < j → avB c k f (cs ++ [(i : Int)]) = false) ∧ Below w.heap.size w wr) (fun vx _ => (k - intOf vx).toNat)
      case atStart => exact ⟨0, by omega, rfl, Lib.hid (fun i h => by omega), B2⟩
      case round =>
        obtain ⟨j, hj, rfl, HG, hb⟩ := hrel
        by_cases hlt : j < k
        · have h2 := (h1.below hb (Nat.le_refl _)).alloc (.cells #[] 3)
          have hm := OwnI.made wr wr.heap.size (Nat.le_refl _)
          have hb1 := (Below.refl wr.heap.size wr).alloc (Nat.le_refl _) (.cells #[] 3)
          have hl0 : ([] : List Int).length ≤ 2000000 := by simp
          have hl1 : cs.length ≤ 2000000 := by omega
          have hsz : wr.heap.size ≤ (wr.alloc (.cells #[] 3)).heap.size := by simp
          go_wp2_with (at_builtin; refine wpList_appAll rfl (.tmp 34) (.tmp 35) rfl wr.heap.size _ _ [] _ _ cs rfl rfl hm h2 hl0 hl1 hsz ?_)
          intro a2 c2 w1 o1 hg2
          have hb3 := hg2 _ hb1
          have hwj : (Lit.int .i64 (j : Int)).wf = true := wf_of (by omega) (by omega)
          clear hb1 hg2 hm h2 hl0
          go_wp2_with (at_builtin; refine wpList_app rfl (.tmp 36) (.tmp 38) rfl wr.heap.size _ _ _ _ rfl rfl o1 hwj hl1 hb3.size ?_)
          intro a3 c3 w2 o2 hg4
          have hb5 := hg4 _ hb3
          have hlen2 : (cs ++ [(j : Int)]).length = cs.length + 1 := by simp
          have hbw2 := nx hb hb5
          have CI := Lib.hid (IH.out (cs ++ [(j : Int)]) a3 c3 w2 (by have := HF.out; omega) o2.ints (hbel.trans (hbw2.mono hbel.size)))
          rw [hlen2] at CI
          have HNX : Hid (avB c k f (cs ++ [(j : Int)]) = false → ∀ i, i < j + 1 → avB c k f (cs ++ [(i : Int)]) = false) := Lib.hid (fun h i hi => by
            by_cases e : i = j
            · subst e; exact h
            · exact HG.out i (by omega))
          have HYES : Hid (avB c k f (cs ++ [(j : Int)]) = true → r = true) := Lib.hid (fun h => by
            rw [HR.out, hh, Bool.not_false, Bool.true_and, List.any_eq_true]
            exact ⟨j, List.mem_range.2 hlt, h⟩)
          obtain ⟨q, hq⟩ : ∃ q, q = avB c k f (cs ++ [(j : Int)]) := ⟨_, rfl⟩
          rw [← hq] at CI HNX HYES
          clear hg4 hb3 o1 o2 hlen2 hwj hl1 hq HG hb5 hb
          cases q with
          | true =>
            have e := HYES.out rfl
            subst e
            clear HNX HYES HR hh
            go_wp2_with fail
            refine CI.out.mono ?_; rintro e w3 ⟨rfl, b3⟩
            go_wp2_with fail
            go_ret
            exact ⟨rfl, nx hbw2 b3⟩
          | false =>
            have HG2 := Lib.hid (HNX.out rfl)
            have HH := Lib.hid hh
            clear HNX HYES hh
            go_wp2_with fail
            refine CI.out.mono ?_; rintro e w3 ⟨rfl, b3⟩
            go_wp2_with fail
            go_roundw
            case rel => exact ⟨j + 1, by omega, by go_num, HG2, nx hbw2 b3⟩
            case measure => simp [intOf]; omega
        · obtain rfl : j = k := by omega
          have e : r = false := by
            rw [HR.out, hh, Bool.not_false, Bool.true_and, List.any_eq_false]
            intro i hi
            rw [HG.out i (List.mem_range.1 hi)]; decide
          subst e
          clear HR hh HG
          go_wp2_with fail
          go_ret
          exact ⟨rfl, hb⟩
theorem radoF_yes {c : List Int} {k f n : Nat} (h : allM c k n = true) : radoF c k (f + 1) n = (n : Int) := by simp [radoF, h]
theorem radoF_no {c : List Int} {k f n : Nat} (h : allM c k n = false) : radoF c k (f + 1) n = radoF c k f (n + 1) := by simp [radoF, h]
set_option maxRecDepth 20000 in
set_option maxHeartbeats 3200000 in
theorem ra_spec (a0 : Option Addr) (c0 : Nat) (c : List Int) (k : Int) (w : World) (h0 : Ints w a0 c0 c) (hl : c.length ≤ 2000000) :
    Calls Try.prog 48 #[.slice a0 c.length c0, .int .i64 k] w fun e w' => e = .returned (.int .i64 (raV c k)) ∧ Below w.heap.size w w' := by
  have CE := Lib.hid (fine_any a0 c0 c w h0 hl)
  obtain ⟨r, hr⟩ : ∃ r, r = raV c k := ⟨_, rfl⟩
  have HR := Lib.hid hr
  rw [← hr]
  clear hr
  cases he : eqnB c with
  | false =>
    have e1 : r = -1 := by rw [HR.out]; simp [raV, raB, he]
    subst e1
    rw [he] at CE
    clear HR he
    go_enter Try.func48, Try.ntmps48
    go_wp2_with fail
    refine CE.out.mono ?_; rintro e w2 ⟨rfl, rfl⟩
    go_wp2_with fail
    go_ret
    exact ⟨rfl, Below.refl _ _⟩
  | true =>
    rw [he] at CE
    by_cases h3 : c.length ≤ 3
    · cases hi : inB k 1 2 with
      | false =>
        have e1 : r = -1 := by rw [HR.out]; simp [raV, raB, hi]
        subst e1
        have HI := Lib.hid hi
        clear HR he hi
        go_enter Try.func48, Try.ntmps48
        go_wp2_with fail
        refine CE.out.mono ?_; rintro e w2 ⟨rfl, rfl⟩
        go_wp2_with fail
        refine (l1In_is k 1 2 false HI.out _).mono ?_; rintro e w2 ⟨rfl, rfl⟩
        go_wp2_with fail
        go_ret
        exact ⟨rfl, Below.refl _ _⟩
      | true =>
        obtain ⟨k1, k2⟩ := inB_true.1 hi
        obtain ⟨m, rfl⟩ := Int.eq_ofNat_of_zero_le (show 0 ≤ k by omega)
        have e1 : r = radoF c m 9 1 := by rw [HR.out]; simp [raV, raB, he, hi, h3]
        have HI := Lib.hid hi
        have HE := Lib.hid e1
        have CA := Lib.hid (fun n (hn : n ≤ 9) a1 c1 w' h hb => avoids_any w a0 c0 c m n h0 he (by omega) hn n [] a1 c1 w' (by simp) h hb)
        simp only [List.length_nil] at CA
        have HAM : Hid (∀ n, allM c m n = !avB c m n []) := Lib.hid (fun n => allM_iff c m n (by omega) (by omega))
        clear HR he hi e1
        go_enter Try.func48, Try.ntmps48
        go_wp2_with fail
        refine CE.out.mono ?_; rintro e w2 ⟨rfl, rfl⟩
        go_wp2_with fail
        refine (l1In_is (m : Int) 1 2 true HI.out _).mono ?_; rintro e w2 ⟨rfl, rfl⟩
        go_wp2_with fail
        go_loopw [5] (fun vn wr => ∃ n f : Nat, n + f = 10 ∧ 1 ≤ n ∧ vn = .int .i64 (n : Int) ∧ Hid (r = radoF c m f n) ∧ Below w.heap.size w wr) (fun vn _ => (10 - intOf vn).toNat)
        case atStart => exact ⟨1, 9, by omega, by omega, rfl, HE, Below.refl _ _⟩
        case round =>
          obtain ⟨n, f, hf, hn1, rfl, HG, hb⟩ := hrel
          by_cases hlt : n ≤ 9
          · obtain ⟨f, rfl⟩ : ∃ g, f = g + 1 := ⟨f - 1, by omega⟩
            have hbm := hb.alloc hb.size (.cells #[] 3)
            have CA1 := Lib.hid (CA.out n hlt (some ⟨wr.heap.size, 0, none⟩) 0 (wr.alloc (.cells #[] 3)) (Ints.nil _ _ _ (by omega)) hbm)
            have ham := HAM.out n
            have HY : Hid (avB c m n [] = false → r = (n : Int)) := Lib.hid (fun h => by rw [HG.out]; exact radoF_yes (by rw [ham, h]; rfl))
            have HN : Hid (avB c m n [] = true → r = radoF c m f (n + 1)) := Lib.hid (fun h => by rw [HG.out]; exact radoF_no (by rw [ham, h]; rfl))
            obtain ⟨q, hq⟩ : ∃ q, q = avB c m n [] := ⟨_, rfl⟩
            rw [← hq] at CA1 HY HN
            clear hq ham HG
            cases q with
            | false =>
              have e := HY.out rfl
              subst e
              clear HY HN HE
              go_wp2_with fail
              refine CA1.out.mono ?_; rintro e w3 ⟨rfl, b3⟩
              go_wp2_with fail
              go_ret
              exact ⟨rfl, nxB hbm b3 hbm.size⟩
            | true =>
              have HG2 := Lib.hid (HN.out rfl)
              clear HY HN
              go_wp2_with fail
              refine CA1.out.mono ?_; rintro e w3 ⟨rfl, b3⟩
              go_wp2_with fail
              go_roundw
              case rel => exact ⟨n + 1, f, by omega, by omega, by go_num, HG2, nxB hbm b3 hbm.size⟩
              case measure => simp [intOf]; omega
          · obtain rfl : f = 0 := by omega
            have e : r = 0 := HG.out
            subst e
            clear HG HE
            go_wp2_with fail
            go_ret
            exact ⟨rfl, hb⟩
    · have e1 : r = -1 := by rw [HR.out]; simp [raV, raB, h3]
      subst e1
      have h3' : 3 < c.length := by omega
      have h3i : (3 : Int) < c.length := by omega
      clear HR he h3
      go_enter Try.func48, Try.ntmps48
      go_wp2_with fail
      refine CE.out.mono ?_; rintro e w2 ⟨rfl, rfl⟩
      go_wp2_with fail
      go_ret
      exact ⟨rfl, Below.refl _ _⟩

theorem bitL_get {n m i : Nat} (h : i < n) : (bitL n m)[i]? = some ((m / 2 ^ i % 2 : Nat) : Int) := by
  simp [bitL, h]
theorem bitL_set {n m i : Nat} (h : i < n) : ((bitL n m).take i ++ List.replicate (n - i) 0).set i ((m / 2 ^ i % 2 : Nat) : Int) = (bitL n m).take (i + 1) ++ List.replicate (n - (i + 1)) 0 := by
  have hl : ((bitL n m).take i).length = i := by rw [List.length_take, bitL_len]; omega
  rw [List.set_append_right _ _ (by omega), hl, Nat.sub_self, show n - i = (n - (i + 1)) + 1 by omega, List.replicate_succ, List.set_cons_zero]
  have hi : i < (bitL n m).length := by rw [bitL_len]; exact h
  rw [List.take_succ_eq_append_getElem hi, List.append_assoc]
  congr 1
  simp only [List.singleton_append, List.cons.injEq, and_true]
  have := bitL_get (m := m) h
  rw [List.getElem?_eq_getElem hi] at this
  exact (Option.some.inj this).symm
theorem bitL_full (n m : Nat) : (bitL n m).take n ++ List.replicate (n - n) 0 = bitL n m := by
  rw [List.take_of_length_le (by rw [bitL_len]; exact Nat.le_refl _), Nat.sub_self]; simp
set_option maxRecDepth 20000 in
set_option maxHeartbeats 6400000 in
theorem ra_impl (a0 : Option Addr) (c0 : Nat) (c : List Int) (k : Int) (w : World) (h0 : Ints w a0 c0 c) (hl : c.length ≤ 2000000) :
    Calls Try.prog 47 #[.slice a0 c.length c0, .int .i64 k] w fun e w' => e = .returned (.int .i64 (raV c k)) ∧ Below w.heap.size w w' := by
  have CE := Lib.hid (isEqn_any a0 c0 c w h0 hl)
  obtain ⟨r, hr⟩ : ∃ r, r = raV c k := ⟨_, rfl⟩
  have HR := Lib.hid hr
  rw [← hr]
  clear hr
  cases he : eqnB c with
  | false =>
    have e1 : r = -1 := by rw [HR.out]; simp [raV, raB, he]
    subst e1
    rw [he] at CE
    clear HR he
    go_enter Try.func47, Try.ntmps47
    go_wp2_with fail
    refine CE.out.mono ?_; rintro e w2 ⟨rfl, rfl⟩
    go_wp2_with fail
    go_ret
    exact ⟨rfl, Below.refl _ _⟩
  | true =>
    rw [he] at CE
    have hc4 := (eqn_bd he).1
    by_cases h3 : c.length ≤ 3
    · have h4 : ((c.length : Int) == 4) = false := by rw [beq_eq_false_iff_ne]; omega
      cases hi : inB k 1 2 with
      | false =>
        have e1 : r = -1 := by rw [HR.out]; simp [raV, raB, hi]
        subst e1
        have HI := Lib.hid hi
        clear HR he hi
        go_enter Try.func47, Try.ntmps47
        go_wp2_with fail
        refine CE.out.mono ?_; rintro e w2 ⟨rfl, rfl⟩
        go_wp2_with fail
        refine (within_is k 1 2 false HI.out _).mono ?_; rintro e w2 ⟨rfl, rfl⟩
        go_wp2_with fail
        go_ret
        exact ⟨rfl, Below.refl _ _⟩
      | true =>
        obtain ⟨k1, k2⟩ := inB_true.1 hi
        obtain ⟨m, rfl⟩ := Int.eq_ofNat_of_zero_le (show 0 ≤ k by omega)
        have e1 : r = radoF c m 9 1 := by rw [HR.out]; simp [raV, raB, he, hi, h3]
        have HI := Lib.hid hi
        have HE := Lib.hid e1
        have CM := Lib.hid (fun cs a1 c1 w' (h : Ints w' a0 c0 c) (k1 : Ints w' a1 c1 cs) (hcl : 1 ≤ cs.length) (hcl2 : cs.length ≤ 9) => by
          have := mo_impl a0 c0 c a1 c1 cs w' h k1 hl (by omega)
          rw [moB_has he (by omega) (by omega)] at this
          exact this)
        clear HR he hi e1
        have hw4 : Ints w a0 c0 c := h0
        go_enter Try.func47, Try.ntmps47
        go_wp2_with fail
        refine CE.out.mono ?_; rintro e w2 ⟨rfl, rfl⟩
        go_wp2_with fail
        refine (within_is (m : Int) 1 2 true HI.out _).mono ?_; rintro e w2 ⟨rfl, rfl⟩
        go_wp2_with fail
        go_loopw [5] (fun vn wr => ∃ n f : Nat, n + f = 10 ∧ 1 ≤ n ∧ vn = .int .i64 (n : Int) ∧ Hid (r = radoF c m f n) ∧ Below w.heap.size w wr) (fun vn _ => (10 - intOf vn).toNat)
        case atStart => exact ⟨1, 9, by omega, by omega, rfl, HE, Below.refl _ _⟩
        case round =>
          obtain ⟨n, f, hf, hn1, rfl, HG, hb⟩ := hrel
          obtain ⟨wo, hwo⟩ : ∃ W, W = wr := ⟨_, rfl⟩
          subst hwo
          by_cases hlt : n ≤ 9
          · obtain ⟨f, rfl⟩ : ∃ g, f = g + 1 := ⟨f - 1, by omega⟩
            have HY : Hid (allM c m n = true → r = (n : Int)) := Lib.hid (fun h => by rw [HG.out]; exact radoF_yes h)
            have HN : Hid (allM c m n = false → r = radoF c m f (n + 1)) := Lib.hid (fun h => by rw [HG.out]; exact radoF_no h)
            have hp : (2 : Nat) ^ n ≤ 512 := by
              have := Nat.pow_le_pow_right (n := 2) (by decide) hlt
              simpa using this
            have hp2 : 2 ≤ (2 : Nat) ^ n := by
              have := Nat.pow_le_pow_right (n := 2) (by decide) hn1
              simpa using this
            have HAL : Hid ((∀ i, i < (if m = 1 then 1 else 2 ^ n) → hasM c (bitL n i) = true) → allM c m n = true) := Lib.hid (fun h => by
              unfold allM; rw [List.all_eq_true]; exact fun i hi => h i (List.mem_range.1 hi))
            have HAN : Hid (∀ i, i < (if m = 1 then 1 else 2 ^ n) → hasM c (bitL n i) = false → allM c m n = false) := Lib.hid (fun i hi h => by
              unfold allM; rw [List.all_eq_false]; exact ⟨i, List.mem_range.2 hi, by rw [h]; decide⟩)
            obtain ⟨P, hP⟩ : ∃ P, P = (2 : Nat) ^ n := ⟨_, rfl⟩
            have hw : IntKind.i64.wrap (2 ^ n) = (P : Int) := by rw [hP, pow_wrap _ (by omega)]; simp
            rw [← hP] at hp hp2 HAL HAN
            have hlt9 : decide ((n : Int) ≤ 9) = true := by simp; omega
            clear hP HG
            go_wp2_with fail
            go_loopw [6, 7] (fun va vm wr => ∃ (j : Nat) (b : Bool), j ≤ P ∧ vm = .int .i64 (j : Int) ∧ va = .bool b ∧ Hid (b = false → allM c m n = false) ∧ Hid (b = true → ∀ i, i < j → hasM c (bitL n i) = true) ∧ Hid (m = 1 → j ≤ 1) ∧ Below wo.heap.size wo wr) (fun _ vm _ => (P - intOf vm).toNat)
            case atStart => exact ⟨0, true, by omega, rfl, rfl, Lib.hid (fun h => by cases h), Lib.hid (fun _ i h => by omega), Lib.hid (fun _ => by omega), Below.refl _ _⟩
            case round =>
              obtain ⟨j, b, hj, rfl, rfl, HBF, HBT, HM1, hbo⟩ := hrel
              have hbt := nx hb hbo
              cases b with
              | false =>
                have HG2 := Lib.hid (HN.out (HBF.out rfl))
                clear HBF HBT HAL HAN HY HN
                go_wp2_with fail
                go_roundw
                case rel => exact ⟨n + 1, f, by omega, by omega, by go_num, HG2, hbt⟩
                case measure => simp [intOf]; omega
              | true =>
                have HB1 : Hid (∀ i, i < j → hasM c (bitL n i) = true) := Lib.hid (HBT.out rfl)
                clear HBT HBF
                by_cases hjP : j < P
                · go_wp2_with (at_make; refine wpList_mk rfl _ _ rfl wr.heap.size _ _ n rfl rfl rfl rfl (by omega) (Nat.le_refl _) ?_)
                  intro w1 o1 hg1
                  have b1 := hg1 _ (Below.refl _ _)
                  have hb1 := nx hbt b1
                  have hbo1 := nx hbo b1
                  have o1s : OwnI w1 wr.heap.size (some ⟨wr.heap.size, 0, none⟩) n ((bitL n j).take 0 ++ List.replicate (n - 0) 0) := by simpa using o1
                  have hsz1 : wr.heap.size < w1.heap.size := by have := (o1.lt _ rfl).2; simpa using this
                  obtain ⟨L, hL⟩ : ∃ L, L = wr.heap.size := ⟨_, rfl⟩
                  rw [← hL] at o1s
                  have HLL := Lib.hid hL
                  rw [← hL]
                  clear hg1 o1 b1 hL
                  go_wp2_with fail
                  go_loopw [40] (fun vi wr => ∃ i : Nat, i ≤ n ∧ vi = .int .i64 (i : Int) ∧ OwnI wr L (some ⟨L, 0, none⟩) n ((bitL n j).take i ++ List.replicate (n - i) 0) ∧ Below w.heap.size w wr ∧ Below wo.heap.size wo wr) (fun vi _ => (n - intOf vi).toNat)
                  case atStart => exact ⟨0, by omega, rfl, o1s, hb1, hbo1⟩
                  case round =>
                    clear o1s hb1 hbo1
                    obtain ⟨i, hi, rfl, oi, hb1, hbo1⟩ := hrel
                    by_cases hin : i < n
                    · have hfr : wr.frozen? ⟨L, i, none⟩ = false := oi.2.frozenAt i
                      obtain ⟨v, hv⟩ : ∃ v, wr.cell? ⟨L, i, none⟩ = some v := ⟨_, (oi.2.cellAt i (by simp [bitL_len]; omega)).trans (List.getElem?_eq_getElem (by simp [bitL_len]; omega))⟩
                      have hbv : bits .and .i64 ((j : Int) / 2 ^ i) 1 = ((j / 2 ^ i % 2 : Nat) : Int) := by rw [shr_nat, bit_and _ (Nat.lt_of_le_of_lt (Nat.div_le_self _ _) (by omega))]
                      have hset := oi.setX i ((j / 2 ^ i % 2 : Nat) : Int) (wf_of (by omega) (by omega))
                      rw [bitL_set hin] at hset
                      obtain ⟨bv, hbv2⟩ : ∃ x, x = j / 2 ^ i % 2 := ⟨_, rfl⟩
                      rw [← hbv2] at hbv hset
                      have hLw : w.heap.size ≤ L ∧ wo.heap.size ≤ L := by have h1 := HLL.out; have h2 := hbt.size; have h3 := hbo.size; omega
                      have HSET := Lib.hid hset
                      have hb2 := hb1.setCell (p := ⟨L, i, none⟩) hLw.1 (.int .i64 (bv : Int))
                      have hbo2 := hbo1.setCell (p := ⟨L, i, none⟩) hLw.2 (.int .i64 (bv : Int))
                      have HB2 := Lib.hid hb2
                      have HBO2 := Lib.hid hbo2
                      have hi40 : (i : Int) < n := by omega
                      clear hbv2 hset oi hb2 hbo2 hb1 hbo1
                      go_wp2_with fail
                      go_roundw
                      case rel => exact ⟨i + 1, by omega, by go_num, HSET.out, HB2.out, HBO2.out⟩
                      case measure => simp [intOf]; omega
                    · obtain rfl : i = n := by omega
                      rw [bitL_full] at oi
                      by_cases hmj : m = 1 ∧ 0 < j
                      · have hall := HAL.out (fun i hi => by
                          rw [if_pos hmj.1] at hi
                          exact HB1.out i (by omega))
                        have e := HY.out hall
                        subst e
                        have hm1 : ((m : Int) == 1) = true := by rw [beq_iff_eq]; omega
                        have hj0 : (0 : Int) < j := by omega
                        clear hall hmj HB1 HM1 HAL HAN HY HN oi HE
                        go_wp2_with fail
                        go_ret
                        exact ⟨rfl, hb1⟩
                      · have hc1 := h0.below hb1 (Nat.le_refl _)
                        have CM1 := CM.out (bitL i j) (some ⟨L, 0, none⟩) i wr hc1 oi.ints (by rw [bitL_len]; omega) (by rw [bitL_len]; omega)
                        rw [bitL_len] at CM1
                        have CMH := Lib.hid CM1
                        have hjif : j < (if m = 1 then 1 else P) := by
                          split
                          · have : ¬ 0 < j := fun h => hmj ⟨by assumption, h⟩
                            omega
                          · exact hjP
                        have HF1 : Hid (hasM c (bitL i j) = false → allM c m i = false) := Lib.hid (HAN.out j hjif)
                        have HF2 : Hid (hasM c (bitL i j) = true → ∀ t, t < j + 1 → hasM c (bitL i t) = true) := Lib.hid (fun h t ht => by
                          by_cases e : t = j
                          · subst e; exact h
                          · exact HB1.out t (by omega))
                        have HM2 : Hid (m = 1 → j + 1 ≤ 1) := Lib.hid (fun h => by
                          have : ¬ 0 < j := fun h2 => hmj ⟨h, h2⟩
                          omega)
                        obtain ⟨q, hq⟩ : ∃ q, q = hasM c (bitL i j) := ⟨_, rfl⟩
                        rw [← hq] at CMH HF1 HF2
                        have hdec : (((m : Int) == 1) = false) ∨ (((m : Int) == 1) = true ∧ (j : Int) ≤ 0) := by
                          by_cases h : m = 1
                          · right
                            refine ⟨by rw [beq_iff_eq]; omega, ?_⟩
                            have : ¬ 0 < j := fun h2 => hmj ⟨h, h2⟩
                            omega
                          · left; rw [beq_eq_false_iff_ne]; omega
                        clear CM1 hq hmj hjif HB1 HM1 oi hc1
                        rcases hdec with hm1 | ⟨hm1, hj0⟩
                        all_goals
                          go_wp2_with fail
                          refine CMH.out.mono ?_; rintro e w3 ⟨a3, c3, rfl, o3, b3⟩
                          have hbo3 := nx hbo1 b3
                          clear o3 CMH b3 hb1 hbo1
                          go_wp2_with fail

                          go_roundw
                          case rel => exact ⟨j + 1, q, by omega, by go_num, rfl, HF1, HF2, HM2, hbo3⟩
                          case measure => simp [intOf]; omega
                · obtain rfl : j = P := by omega
                  have hall := HAL.out (fun i hi => by
                    split at hi
                    · have := HM1.out (by assumption); omega
                    · exact HB1.out i hi)
                  have e := HY.out hall
                  subst e
                  clear hall HB1 HM1 HAL HAN HY HN HE
                  go_wp2_with fail
                  go_ret
                  exact ⟨rfl, hbt⟩
          · obtain rfl : f = 0 := by omega
            have e : r = 0 := HG.out
            subst e
            clear HG HE
            go_wp2_with fail
            go_ret
            exact ⟨rfl, hb⟩
    · have e1 : r = -1 := by rw [HR.out]; simp [raV, raB, h3]
      subst e1
      have h4 : ((c.length : Int) == 4) = true := by rw [beq_iff_eq]; omega
      clear HR he h3
      go_enter Try.func47, Try.ntmps47
      go_wp2_with fail
      refine CE.out.mono ?_; rintro e w2 ⟨rfl, rfl⟩
      go_wp2_with fail
      go_ret
      exact ⟨rfl, Below.refl _ _⟩
end Go.Proofs.Ytokpgbpdmfibjaa
