/-
Contracts of both sides' places and multiples of elements. Conditions: orders of a group, elements below the order, multiples up to 100.
-/
import Derived.Test.YtokpgbpdmfibjaaExt
import Derived.Test.YtokpgbpdmfibjaaApp
namespace Go.Proofs.Ytokpgbpdmfibjaa
open Go.RowKit Go.ChangeShapes
set_option linter.unusedVariables false

theorem plL_step {os : List Int} {k X n : Nat} {ps qs : List Int} (hk : k < os.length) (hn : os[k] = (n : Int)) (h : ps ++ plL (os.drop k) X = qs) : (ps ++ [((X % n : Nat) : Int)]) ++ plL (os.drop (k + 1)) (X / n) = qs := by
  rw [← h, ← List.getElem_cons_drop hk, hn, List.append_assoc]
  rfl

set_option maxRecDepth 20000 in
set_option maxHeartbeats 1600000 in
theorem places_any (a0 : Option Addr) (c0 : Nat) (os : List Int) (x : Nat) (w : World) (h0 : Ints w a0 c0 os) (hl : os.length ≤ 2000000) (hg0 : grpB os = true) (hx : x < gn os) :
    Calls Try.prog 78 #[.agg #[.slice a0 os.length c0], .int .i64 x] w (GaveI w (plL os x)) := by
  have hb0 := (Below.refl w.heap.size w).alloc (Nat.le_refl _) (.cells #[.slice a0 os.length c0] 26)
  have h1 := h0.below hb0 (Nat.le_refl _)
  obtain ⟨g2, g3, g4, g5, g6⟩ := grp_gn hg0
  have hl3 := (grp_parts hg0).1
  have HO := Lib.hid g2
  
  
  have HPL : Hid ([] ++ plL (os.drop 0) x = plL os x) := Lib.hid (by simp)
  obtain ⟨qs, hqs⟩ : ∃ qs, qs = plL os x := ⟨_, rfl⟩
  have hq3 : qs.length ≤ 3 := by rw [hqs, plL_len]; exact hl3
  rw [← hqs] at HPL ⊢
  obtain ⟨n0, hn0⟩ : ∃ n, n = gn os := ⟨_, rfl⟩
  rw [← hn0] at hx g4
  have HC := Lib.hid h0.2.2.2.2
  have HM := Lib.hid (OwnI.made_at (w := (w.alloc (.cells #[.slice a0 os.length c0] 26))) (B := w.heap.size + 1) (n := w.heap.size + 1) (by simp) (Nat.le_refl _))
  have HB := Lib.hid ((Below.refl (w.heap.size + 1) (w.alloc (.cells #[.slice a0 os.length c0] 26))).alloc (by simp) (.cells #[] 3))
  clear hqs hn0 g2 g3 g5 g6 hg0
  go_enter Try.func78, Try.ntmps78
  go_wp2_with fail
  go_loopw [1, 5, 12] (fun vx vo vi wr => ∃ (k X : Nat) (ps : List Int) (ad : Option Addr) (c : Nat), k ≤ os.length ∧ vi = .int .i64 (k : Int) ∧ vx = .int .i64 (X : Int) ∧ vo = .slice ad ps.length c ∧ X < n0 ∧ Hid (ps ++ plL (os.drop k) X = qs) ∧ OwnI wr (w.heap.size + 1) ad c ps ∧ ps.length ≤ 3 ∧ Below (w.heap.size + 1) (w.alloc (.cells #[.slice a0 os.length c0] 26)) wr ∧ w.heap.size + 1 ≤ wr.heap.size) (fun _ _ i _ => os.length - (intOf i).toNat)
  case atStart => exact ⟨0, x, [], _, _, by omega, rfl, rfl, rfl, hx, HPL, HM.out, by simp, HB.out, by simp⟩
  case round =>
    clear hx
    obtain ⟨k, X, ps, ad, c, hk, rfl, rfl, rfl, hX, HP, ho, hpl, hbel, hsz⟩ := hrel
    have q3 : wr.cell? ⟨w.heap.size, 0, none⟩ = some (.slice a0 os.length c0) := by rw [hbel.cell (p := ⟨w.heap.size, 0, none⟩) (by simp)]; simp [go_sem]
    by_cases hlt : k < os.length
    · rcases HC.out with hcs | ⟨b, off, rfl, hbB, hcell⟩
      · subst hcs; simp at hlt
      · have hltb : decide ((k : Int) < (os.length : Int)) = true := by simp; omega
        have c1 : wr.cell? ⟨b, off + k, none⟩ = some (.int .i64 os[k]) := (hbel.cell (p := ⟨b, off + k, none⟩) (by show b < w.heap.size + 1; omega)).trans ((hb0.cell (p := ⟨b, off + k, none⟩) hbB).trans (hcell k hlt))
        obtain ⟨n1, n2⟩ := ordsIn_at HO.out hlt
        obtain ⟨n, hn⟩ := Int.eq_ofNat_of_zero_le (show 0 ≤ os[k] by omega)
        have HST := Lib.hid (plL_step hlt hn HP.out)
        rw [hn] at c1 n1 n2
        have m1 : X % n < n := Nat.mod_lt _ (by omega)
        have m2 : X / n ≤ X := Nat.div_le_self _ _
        have e3 : (X : Int) % (n : Int) = ((X % n : Nat) : Int) := rfl
        have e5 : (X : Int) / (n : Int) = ((X / n : Nat) : Int) := rfl
        have hn0 : ¬ n = 0 := by omega
        have h4 := h1.below hbel (by simp)
        
        
        obtain ⟨A, hA⟩ : ∃ A, A = X % n := ⟨_, rfl⟩
        obtain ⟨X', hX'⟩ : ∃ Y, Y = X / n := ⟨_, rfl⟩
        rw [← hA] at HST m1 e3
        rw [← hX'] at HST m2 e5
        have hpl2 : (ps ++ [(A : Int)]).length ≤ 3 := by
          have := congrArg List.length HST.out
          simp only [List.length_append] at this ⊢
          omega
        have hpl3 : ps.length + 1 ≤ 3 := by simpa using hpl2
        clear hcell hn hA hX' HP
        go_wp2_with (at_builtin; refine wpList_app rfl _ _ rfl (w.heap.size + 1) _ _ ps (A : Int) rfl rfl ho (wf_of (by omega) (by omega)) (by omega) hsz ?_)
        
        intro a' c' w4 o4 hgr
        have hb4 := hgr _ hbel
        have hg5 := hgr _ (Below.refl _ _)
        have hsz4 := Nat.le_trans hsz hg5.size
        have q5 := (hg5.cell (p := ⟨w.heap.size, 0, none⟩) (by show w.heap.size < w.heap.size + 1; omega)).trans q3
        have c5 := (hg5.cell (p := ⟨b, off + k, none⟩) (by show b < w.heap.size + 1; omega)).trans c1
        clear hg5 hgr ho hbel q3 c1
        go_wp2_with fail
        go_roundw
        case rel => exact ⟨k + 1, X', ps ++ [(A : Int)], a', c', by omega, by go_num, rfl, by simp, by omega, HST, o4, hpl2, hb4, hsz4⟩
        case measure => simp [intOf]; omega
    · obtain rfl : k = os.length := by omega
      have hltb : decide ((os.length : Int) < (os.length : Int)) = false := by simp
      have e : ps = qs := by have := HP.out; simpa [plL] using this
      subst e
      clear HP HC HO
      go_wp2_with fail
      go_ret
      exact ⟨_, _, rfl, ho.mono (by omega), hb0.trans (hbel.mono (by omega))⟩

set_option maxRecDepth 20000 in
set_option maxHeartbeats 1600000 in
theorem placesOf_any (a0 : Option Addr) (c0 : Nat) (os : List Int) (x : Nat) (w : World) (h0 : Ints w a0 c0 os) (hl : os.length ≤ 2000000) (hg0 : grpB os = true) (hx : x < gn os) :
    Calls Try.prog 132 #[.agg #[.slice a0 os.length c0], .int .i64 x] w (GaveI w (plL os x)) := by
  have hb0 := (Below.refl w.heap.size w).alloc (Nat.le_refl _) (.cells #[.slice a0 os.length c0] 26)
  have h1 := h0.below hb0 (Nat.le_refl _)
  obtain ⟨g2, g3, g4, g5, g6⟩ := grp_gn hg0
  have hl3 := (grp_parts hg0).1
  have HO := Lib.hid g2
  have CX := Lib.hid (fun (y : Nat) w h => l2Is_any a0 c0 os (y : Int) w h hl)
  rw [ordN_grp hg0] at CX
  have HPL : Hid ([] ++ plL (os.drop 0) x = plL os x) := Lib.hid (by simp)
  obtain ⟨qs, hqs⟩ : ∃ qs, qs = plL os x := ⟨_, rfl⟩
  have hq3 : qs.length ≤ 3 := by rw [hqs, plL_len]; exact hl3
  rw [← hqs] at HPL ⊢
  obtain ⟨n0, hn0⟩ : ∃ n, n = gn os := ⟨_, rfl⟩
  rw [← hn0] at hx g4 CX
  have HC := Lib.hid h0.2.2.2.2
  have HM := Lib.hid (OwnI.made_at (w := (w.alloc (.cells #[.slice a0 os.length c0] 26))) (B := w.heap.size + 1) (n := w.heap.size + 1) (by simp) (Nat.le_refl _))
  have HB := Lib.hid ((Below.refl (w.heap.size + 1) (w.alloc (.cells #[.slice a0 os.length c0] 26))).alloc (by simp) (.cells #[] 3))
  clear hqs hn0 g2 g3 g5 g6 hg0
  go_enter Try.func132, Try.ntmps132
  go_wp2_with fail
  go_loopw [1, 5, 6] (fun vx vo vi wr => ∃ (k X : Nat) (ps : List Int) (ad : Option Addr) (c : Nat), k ≤ os.length ∧ vi = .int .i64 (k : Int) ∧ vx = .int .i64 (X : Int) ∧ vo = .slice ad ps.length c ∧ X < n0 ∧ Hid (ps ++ plL (os.drop k) X = qs) ∧ OwnI wr (w.heap.size + 1) ad c ps ∧ ps.length ≤ 3 ∧ Below (w.heap.size + 1) (w.alloc (.cells #[.slice a0 os.length c0] 26)) wr ∧ w.heap.size + 1 ≤ wr.heap.size) (fun _ _ i _ => os.length - (intOf i).toNat)
  case atStart => exact ⟨0, x, [], _, _, by omega, rfl, rfl, rfl, hx, HPL, HM.out, by simp, HB.out, by simp⟩
  case round =>
    clear hx
    obtain ⟨k, X, ps, ad, c, hk, rfl, rfl, rfl, hX, HP, ho, hpl, hbel, hsz⟩ := hrel
    have q3 : wr.cell? ⟨w.heap.size, 0, none⟩ = some (.slice a0 os.length c0) := by rw [hbel.cell (p := ⟨w.heap.size, 0, none⟩) (by simp)]; simp [go_sem]
    by_cases hlt : k < os.length
    · rcases HC.out with hcs | ⟨b, off, rfl, hbB, hcell⟩
      · subst hcs; simp at hlt
      · have hltb : decide ((k : Int) < (os.length : Int)) = true := by simp; omega
        have c1 : wr.cell? ⟨b, off + k, none⟩ = some (.int .i64 os[k]) := (hbel.cell (p := ⟨b, off + k, none⟩) (by show b < w.heap.size + 1; omega)).trans ((hb0.cell (p := ⟨b, off + k, none⟩) hbB).trans (hcell k hlt))
        obtain ⟨n1, n2⟩ := ordsIn_at HO.out hlt
        obtain ⟨n, hn⟩ := Int.eq_ofNat_of_zero_le (show 0 ≤ os[k] by omega)
        have HST := Lib.hid (plL_step hlt hn HP.out)
        rw [hn] at c1 n1 n2
        have m1 : X % n < n := Nat.mod_lt _ (by omega)
        have m2 : X / n ≤ X := Nat.div_le_self _ _
        have e3 : (X : Int) % (n : Int) = ((X % n : Nat) : Int) := rfl
        have e5 : (X : Int) / (n : Int) = ((X / n : Nat) : Int) := rfl
        have hn0 : ¬ n = 0 := by omega
        have h4 := h1.below hbel (by simp)
        have CX1 := Lib.hid (fun w h => CX.out X w h)
        rw [decide_eq_true (show 0 ≤ (X : Int) ∧ (X : Int) < (n0 : Int) by omega)] at CX1
        obtain ⟨A, hA⟩ : ∃ A, A = X % n := ⟨_, rfl⟩
        obtain ⟨X', hX'⟩ : ∃ Y, Y = X / n := ⟨_, rfl⟩
        rw [← hA] at HST m1 e3
        rw [← hX'] at HST m2 e5
        have hpl2 : (ps ++ [(A : Int)]).length ≤ 3 := by
          have := congrArg List.length HST.out
          simp only [List.length_append] at this ⊢
          omega
        have hpl3 : ps.length + 1 ≤ 3 := by simpa using hpl2
        clear hcell hn hA hX' HP
        go_wp2_with fail
        refine (CX1.out _ h4).mono ?_; rintro e w3 ⟨rfl, b3⟩
        have q4 := (b3.cell (p := ⟨w.heap.size, 0, none⟩) (by show w.heap.size < wr.heap.size; omega)).trans q3
        have hb3 := hbel.trans (b3.mono hsz)
        have ho3 := ho.below b3 (Nat.le_refl _)
        have c2 := (b3.cell (p := ⟨b, off + k, none⟩) (by show b < wr.heap.size; omega)).trans c1
        have hsz3 := Nat.le_trans hsz b3.size
        clear b3 q3 hbel ho c1 h4 CX1 hsz
        go_wp2_with (at_builtin; refine wpList_app rfl _ _ rfl (w.heap.size + 1) _ _ ps (A : Int) rfl rfl ho3 (wf_of (by omega) (by omega)) (by omega) hsz3 ?_)
        intro a' c' w4 o4 hgr
        have hb4 := hgr _ hb3
        have hg5 := hgr _ (Below.refl _ _)
        have hsz4 := Nat.le_trans hsz3 hg5.size
        have q5 := (hg5.cell (p := ⟨w.heap.size, 0, none⟩) (by show w.heap.size < w.heap.size + 1; omega)).trans q4
        have c5 := (hg5.cell (p := ⟨b, off + k, none⟩) (by show b < w.heap.size + 1; omega)).trans c2
        clear hg5 hgr ho3 hb3 q4 c2 hsz3
        go_wp2_with fail
        go_roundw
        case rel => exact ⟨k + 1, X', ps ++ [(A : Int)], a', c', by omega, by go_num, rfl, by simp, by omega, HST, o4, hpl2, hb4, hsz4⟩
        case measure => simp [intOf]; omega
    · obtain rfl : k = os.length := by omega
      have hltb : decide ((os.length : Int) < (os.length : Int)) = false := by simp
      have e : ps = qs := by have := HP.out; simpa [plL] using this
      subst e
      clear HP HC HO
      go_wp2_with fail
      go_ret
      exact ⟨_, _, rfl, ho.mono (by omega), hb0.trans (hbel.mono (by omega))⟩

set_option maxRecDepth 20000 in
set_option maxHeartbeats 1600000 in
theorem times_any (a0 : Option Addr) (c0 : Nat) (os : List Int) (x n : Nat) (w : World) (h0 : Ints w a0 c0 os) (hl : os.length ≤ 2000000) (hg0 : grpB os = true) (hx : x < gn os) (hn : n ≤ 100) :
    Calls Try.prog 80 #[.agg #[.slice a0 os.length c0], .int .i64 x, .int .i64 n] w fun e w' => e = .returned (.int .i64 (gmul os x n : Int)) ∧ Below w.heap.size w w' := by
  have hb0 := (Below.refl w.heap.size w).alloc (Nat.le_refl _) (.cells #[.slice a0 os.length c0] 26)
  have h1 := h0.below hb0 (Nat.le_refl _)
  obtain ⟨g2, g3, g4, g5, g6⟩ := grp_gn hg0
  have CA := Lib.hid (fun x y w h hx hy => add_any a0 c0 os x y w h hg0 hx hy)
  have HG : Hid (∀ k, gmul os x k < 24) := Lib.hid (fun k => by have := gmul_lt g2 x k; omega)
  
  
  
  have hx24 : x < 24 := by omega
  clear g2 g3 g4 g5 g6 hg0 hx
  go_enter Try.func80, Try.ntmps80
  go_wp2_with fail
  go_loopw [7, 16] (fun vs vi wr => ∃ k s : Nat, k ≤ n ∧ vi = .int .i64 (k : Int) ∧ vs = .int .i64 (s : Int) ∧ Hid (s = gmul os x k) ∧ Below w.heap.size w wr ∧ wr.cell? ⟨w.heap.size, 0, none⟩ = some (.slice a0 os.length c0) ∧ w.heap.size < wr.heap.size) (fun _ i _ => n - (intOf i).toNat)
  case atStart => exact ⟨0, 0, by omega, rfl, rfl, Lib.hid rfl, hb0, by simp [go_sem], by simp⟩
  case round =>
    obtain ⟨k, s, hk, rfl, rfl, HS, hbel, q3, z3⟩ := hrel
    by_cases hlt : k < n
    · have hs24 : s < 24 := by have := HG.out k; have := HS.out; omega
      have h4 := h0.below hbel (Nat.le_refl _)
      have CY := Lib.hid (CA.out s x wr h4 (by omega) (by omega))
      have hst : gadd os s x = gmul os x (k + 1) := by rw [HS.out]; rfl
      obtain ⟨t, ht⟩ : ∃ t, t = gadd os s x := ⟨_, rfl⟩
      rw [← ht] at CY hst
      have HST := Lib.hid hst
      have hkn : (k : Int) < n := by omega
      clear ht hst HS h4
      go_wp2_with fail
      refine CY.out.mono ?_; rintro e w3 ⟨rfl, b3⟩
      have hb3 := nx hbel b3
      have q4 := (b3.cell (p := ⟨w.heap.size, 0, none⟩) z3).trans q3
      have z4 := Nat.lt_of_lt_of_le z3 b3.size
      clear b3 hbel q3 z3 CY
      go_wp2_with fail
      go_roundw
      case rel => exact ⟨k + 1, t, by omega, by go_num, rfl, HST, hb3, q4, z4⟩
      case measure => simp [intOf]; omega
    · obtain rfl : k = n := by omega
      have e := HS.out
      subst e
      clear HS HG
      go_wp2_with fail
      go_ret
      exact ⟨rfl, hbel⟩

set_option maxRecDepth 20000 in
set_option maxHeartbeats 1600000 in
theorem multipleOf_any (a0 : Option Addr) (c0 : Nat) (os : List Int) (x n : Nat) (w : World) (h0 : Ints w a0 c0 os) (hl : os.length ≤ 2000000) (hg0 : grpB os = true) (hx : x < gn os) (hn : n ≤ 100) :
    Calls Try.prog 83 #[.agg #[.slice a0 os.length c0], .int .i64 x, .int .i64 n] w fun e w' => e = .returned (.int .i64 (gmul os x n : Int)) ∧ Below w.heap.size w w' := by
  have hb0 := (Below.refl w.heap.size w).alloc (Nat.le_refl _) (.cells #[.slice a0 os.length c0] 26)
  have h1 := h0.below hb0 (Nat.le_refl _)
  obtain ⟨g2, g3, g4, g5, g6⟩ := grp_gn hg0
  have CA := Lib.hid (fun x y w h hx hy => l2Add_any a0 c0 os x y w h hg0 hx hy)
  have HG : Hid (∀ k, gmul os x k < 24) := Lib.hid (fun k => by have := gmul_lt g2 x k; omega)
  have CX := Lib.hid (fun w h => l2Is_any a0 c0 os (x : Int) w h hl)
  rw [ordN_grp hg0, decide_eq_true (show 0 ≤ (x : Int) ∧ (x : Int) < (gn os : Int) by omega)] at CX
  have HI := Lib.hid (show inB (n : Int) (-100) 100 = true from inB_true.2 ⟨by omega, by omega⟩)
  have hx24 : x < 24 := by omega
  clear g2 g3 g4 g5 g6 hg0 hx
  go_enter Try.func83, Try.ntmps83
  go_wp2_with fail
  refine (CX.out _ h1).mono ?_; rintro e w1 ⟨rfl, b1⟩
  have q1 := box_cell b1 (by simp)
  have z1 : w.heap.size < w1.heap.size := by have := b1.size; simp at this; omega
  have hb1 := nx hb0 b1
  clear b1 h1
  go_wp2_with fail
  refine (l1In_is (n : Int) (-100) 100 true HI.out _).mono ?_; rintro e w' ⟨rfl, rfl⟩
  go_wp2_with fail
  go_loopw [7, 8] (fun vs vi wr => ∃ k s : Nat, k ≤ n ∧ vi = .int .i64 (k : Int) ∧ vs = .int .i64 (s : Int) ∧ Hid (s = gmul os x k) ∧ Below w.heap.size w wr ∧ wr.cell? ⟨w.heap.size, 0, none⟩ = some (.slice a0 os.length c0) ∧ w.heap.size < wr.heap.size) (fun _ i _ => n - (intOf i).toNat)
  case atStart => exact ⟨0, 0, by omega, rfl, rfl, Lib.hid rfl, hb1, q1, z1⟩
  case round =>
    obtain ⟨k, s, hk, rfl, rfl, HS, hbel, q3, z3⟩ := hrel
    by_cases hlt : k < n
    · have hs24 : s < 24 := by have := HG.out k; have := HS.out; omega
      have h4 := h0.below hbel (Nat.le_refl _)
      have CY := Lib.hid (CA.out s x wr h4 (by omega) (by omega))
      have hst : gadd os s x = gmul os x (k + 1) := by rw [HS.out]; rfl
      obtain ⟨t, ht⟩ : ∃ t, t = gadd os s x := ⟨_, rfl⟩
      rw [← ht] at CY hst
      have HST := Lib.hid hst
      have hkn : (k : Int) < n := by omega
      clear ht hst HS h4
      go_wp2_with fail
      refine CY.out.mono ?_; rintro e w3 ⟨rfl, b3⟩
      have hb3 := nx hbel b3
      have q4 := (b3.cell (p := ⟨w.heap.size, 0, none⟩) z3).trans q3
      have z4 := Nat.lt_of_lt_of_le z3 b3.size
      clear b3 hbel q3 z3 CY
      go_wp2_with fail
      go_roundw
      case rel => exact ⟨k + 1, t, by omega, by go_num, rfl, HST, hb3, q4, z4⟩
      case measure => simp [intOf]; omega
    · obtain rfl : k = n := by omega
      have e := HS.out
      subst e
      clear HS HG
      go_wp2_with fail
      go_ret
      exact ⟨rfl, hbel⟩
end Go.Proofs.Ytokpgbpdmfibjaa
