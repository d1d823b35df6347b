/-
The cursor that the drawing functions read from: its making, a byte, a number below another one, one of a list. Conditions: codes of at most 2000000 bytes.
-/
import Derived.Test.YtokpgbpdmfibjaaApp
import Derived.Test.YtokpgbpdmfibjaaBit
import Derived.Deep.QuietTactic
import Derived.BigQuiet
import Derived.OpenShut
import Derived.Outline
namespace Go.Proofs.Ytokpgbpdmfibjaa
open Go.RowKit Go.ChangeShapes
set_option linter.unusedVariables false

/-- A slice of n bytes. -/
def BtS (w : World) (a : Option Addr) (cap n : Nat) : Prop :=
  n ≤ cap ∧ cap ≤ maxLen ∧ (n = 0 ∨ ∃ b off, a = some ⟨b, off, none⟩ ∧ b < w.heap.size ∧ ∀ i, i < n → ∃ v : Nat, v ≤ 255 ∧ w.cell? ⟨b, off + i, none⟩ = some (.int .u8 (v : Int)))
theorem BtS.below {B : Nat} {w w' : World} {a : Option Addr} {cap n : Nat} (h : BtS w a cap n) (hb : Below B w w') (hB : w.heap.size ≤ B) : BtS w' a cap n := by
  obtain ⟨h1, h2, h3⟩ := h
  refine ⟨h1, h2, ?_⟩
  rcases h3 with h3 | ⟨b, off, ha, hlt, hc⟩
  · exact .inl h3
  · refine .inr ⟨b, off, ha, by have := hb.size; omega, fun i hi => ?_⟩
    obtain ⟨v, hv, hcell⟩ := hc i hi
    exact ⟨v, hv, (hb.cell (p := ⟨b, off + i, none⟩) (by show b < B; omega)).trans hcell⟩
theorem wrap_bd (n : Int) : -9223372036854775808 ≤ IntKind.i64.wrap n ∧ IntKind.i64.wrap n ≤ 9223372036854775807 := by rw [IntKind.wrap_i64]; omega
theorem and_mask (x : Int) (m : Nat) (hm : m < 4611686018427387904) : ∃ v : Nat, v ≤ m ∧ bits .and .i64 x (m : Int) = (v : Int) := by
  refine ⟨(BitVec.ofInt 64 x &&& BitVec.ofInt 64 (m : Int)).toNat, ?_, ?_⟩
  · rw [BitVec.toNat_and, BitVec.ofInt_natCast, BitVec.toNat_ofNat, Nat.mod_eq_of_lt (show m < 2 ^ 64 by omega)]
    exact Nat.and_le_right
  · have h : (BitVec.ofInt 64 x &&& BitVec.ofInt 64 (m : Int)).toNat ≤ m := by
      rw [BitVec.toNat_and, BitVec.ofInt_natCast, BitVec.toNat_ofNat, Nat.mod_eq_of_lt (show m < 2 ^ 64 by omega)]
      exact Nat.and_le_right
    show IntKind.i64.wrap _ = _
    exact wraps_i64 _ (by omega) (by
      have : ((BitVec.ofInt 64 x &&& BitVec.ofInt 64 (m : Int)).toNat : Int) ≤ m := by omega
      show ((BitVec.ofInt 64 x &&& BitVec.ofInt 64 (m : Int)).toNat : Int) < 2 ^ 63
      omega)

/-- The cursor in its block. -/
def CurOk (w : World) (cb : Nat) (a : Option Addr) (n cap : Nat) : Prop :=
  ∃ (i : Nat) (h : Int), i ≤ n ∧ (-9223372036854775808 ≤ h ∧ h ≤ 9223372036854775807) ∧ w.heap[cb]? = some (.cells #[.slice a n cap, .int .i64 (i : Int), .int .i64 h] 103 (0, 0))
theorem three_cell {w : World} {b : Nat} {u v x : Value} {t : TypeId} (h : w.heap[b]? = some (.cells #[u, v, x] t (0, 0))) : w.cell? ⟨b, 0, none⟩ = some u ∧ w.cell? ⟨b, 1, none⟩ = some v ∧ w.cell? ⟨b, 2, none⟩ = some x := by
  simp [World.cell?, h]
theorem three_free {w : World} {b : Nat} {u v x : Value} {t : TypeId} (h : w.heap[b]? = some (.cells #[u, v, x] t (0, 0))) (k : Nat) : w.frozen? ⟨b, k, none⟩ = false := by simp [World.frozen?, h]
theorem three_set {w : World} {b : Nat} {u v x y : Value} {t : TypeId} (h : w.heap[b]? = some (.cells #[u, v, x] t (0, 0))) : (w.setCell ⟨b, 2, none⟩ y).heap[b]? = some (.cells #[u, v, y] t (0, 0)) ∧ (w.setCell ⟨b, 1, none⟩ y).heap[b]? = some (.cells #[u, y, x] t (0, 0)) := by
  have hlt := lt_of_block h
  have h' : w.heap[b] = .cells #[u, v, x] t (0, 0) := by simpa [Array.getElem?_eq_getElem hlt] using h
  constructor
  · show (w.heap.modify b _)[b]? = _
    rw [Array.getElem?_eq_getElem (by simpa using hlt), Array.getElem_modify_self, h']
    rfl
  · show (w.heap.modify b _)[b]? = _
    rw [Array.getElem?_eq_getElem (by simpa using hlt), Array.getElem_modify_self, h']
    rfl
theorem grown_setK {w : World} (b k : Nat) (v : Value) : w.grownBy (w.setCell ⟨b, k, none⟩ v) (some b) :=
  ⟨rfl, rfl, rfl, by simp [World.setCell], fun k _ hne => Below.heap_setCell _ _ _ _ (fun e => hne (by rw [e]))⟩
theorem grown_drewN {w w1 : World} {q : Option Nat} (h : w.grownBy w1 q) (k : Nat) : w.grownBy (w1.drewN k) q := ⟨h.os, h.tape, h.output, h.size, h.block⟩
/-- The cursor of a call that began at w0 with the bytes. -/
structure CW (w0 : World) (a : Option Addr) (n cap cb : Nat) (w : World) : Prop where
  bt : BtS w0 a cap n
  hcb : w0.heap.size ≤ cb
  cur : CurOk w cb a n cap
  bel : Below w0.heap.size w0 w
theorem CW.below {w0 : World} {a : Option Addr} {n cap cb : Nat} {w w' : World} (h : CW w0 a n cap cb w) (hb : Below w.heap.size w w') : CW w0 a n cap cb w' := by
  obtain ⟨i, x, h1, h2, h3⟩ := h.cur
  exact ⟨h.bt, h.hcb, ⟨i, x, h1, h2, one_below h3 hb (Nat.le_refl _)⟩, h.bel.trans (hb.mono h.bel.size)⟩
theorem CW.lt {w0 : World} {a : Option Addr} {n cap cb : Nat} {w : World} (h : CW w0 a n cap cb w) : cb < w.heap.size := by
  obtain ⟨i, x, h1, h2, h3⟩ := h.cur
  exact lt_of_block h3
/-- Behind writes to another block. -/
theorem CW.grown {w0 : World} {a : Option Addr} {n cap cb : Nat} {w w' : World} {q : Option Nat} (h : CW w0 a n cap cb w) (hg : w.grownBy w' q) (hne : some cb ≠ q) (hq : ∀ b, q = some b → w0.heap.size ≤ b) : CW w0 a n cap cb w' := by
  obtain ⟨i, x, h1, h2, h3⟩ := h.cur
  exact ⟨h.bt, h.hcb, ⟨i, x, h1, h2, one_grown h3 hg hne⟩, h.bel.grown hg h.bel.size hq⟩

set_option maxRecDepth 20000 in
set_option maxHeartbeats 1600000 in
theorem new_any (a : Option Addr) (cap n : Nat) (w : World) (hb : BtS w a cap n) (hn : n ≤ 2000000) :
    Calls Try.prog 74 #[.slice a n cap] w fun e w' => ∃ cb, e = .returned (.pointer (some ⟨cb, 0, none⟩)) ∧ CW w a n cap cb w' := by
  obtain ⟨h1, h2, h3⟩ := hb
  have HBT : Hid (BtS w a cap n) := Lib.hid ⟨h1, h2, h3⟩
  have H3 := Lib.hid h3
  clear h3
  go_enter Try.func74, Try.ntmps74
  go_wp2_with fail
  go_loop [3, 4] (fun vh vi => ∃ (i h : Nat), i ≤ n ∧ vi = .int .i64 (i : Int) ∧ vh = .int .i64 (h : Int) ∧ h ≤ 2000000000) (fun _ vi => (n - intOf vi).toNat)
  case atStart => exact ⟨0, 10101 + n, by omega, rfl, by go_num, by omega⟩
  case round =>
    obtain ⟨i, h, hi, rfl, rfl, hh⟩ := hrel
    by_cases hlt : i < n ∧ i < 4000
    · obtain ⟨k1, k2⟩ := hlt
      rcases H3.out with h0 | ⟨b, off, rfl, hlt, hc⟩
      · omega
      obtain ⟨v, hv, d1⟩ := hc i k1
      obtain ⟨x, hx, ex⟩ := and_mask ((h : Int) * 131 + (v : Int) + 7) 1073741823 (by decide)
      have ki : (i : Int) < n := by omega
      clear hc
      go_wp2_with fail
      go_round
      case rel => exact ⟨i + 1, x, by omega, by go_num, by first | (rw [← ex]; rfl) | simpa using ex, by omega⟩
      case measure => simp [intOf]; omega
    · have hfin : ∀ (cb : Nat) (W : World), W = w.alloc (.cells #[.slice a n cap, .int .i64 0, .int .i64 (h : Int)] 103) → cb = w.heap.size → CW w a n cap cb W := fun cb W hW hcb => by
        subst hW
        subst hcb
        exact ⟨HBT.out, Nat.le_refl _, ⟨0, h, by omega, by omega, by simpa using heap_alloc_new w _⟩, (Below.refl _ _).alloc (Nat.le_refl _) _⟩
      have HF := Lib.hid hfin
      by_cases k1 : i < n
      · have k2 : ¬ i < 4000 := fun k => hlt ⟨k1, k⟩
        have k1i : (i : Int) < n := by omega
        have k2i : (4000 : Int) ≤ i := by omega
        clear hfin hlt
        go_wp2_with fail
        go_ret
        exact ⟨_, rfl, HF.out _ _ rfl rfl⟩
      · have k1i : (n : Int) ≤ i := by omega
        clear hfin hlt
        go_wp2_with fail
        go_ret
        exact ⟨_, rfl, HF.out _ _ rfl rfl⟩

set_option maxRecDepth 20000 in
set_option maxHeartbeats 1600000 in
theorem byte_any (w0 : World) (a : Option Addr) (cap n cb : Nat) (w : World) (hc : CW w0 a n cap cb w) (hn : n ≤ 2000000) :
    Calls Try.prog 135 #[.pointer (some ⟨cb, 0, none⟩)] w fun e w' => ∃ x : Nat, e = .returned (.int .i64 (x : Int)) ∧ x ≤ 255 ∧ CW w0 a n cap cb w' ∧ w.grownBy w' (some cb) := by
  obtain ⟨hbt, hcb, ⟨i, h, hi, hh, hb⟩, hbel⟩ := hc
  obtain ⟨c0, c1, c2⟩ := three_cell hb
  have f2 := three_free hb 2
  obtain ⟨g, hg⟩ : ∃ g, g = RowKit.wrap64 (RowKit.wrap64 (h * 6364136223846793005) + 1442695040888963407) := ⟨_, rfl⟩
  have hg2 := wrap_bd (RowKit.wrap64 (h * 6364136223846793005) + 1442695040888963407)
  rw [IntWalk.i64_left, ← hg] at hg2
  have HG := Lib.hid hg.symm
  have hgr := grown_setK (w := w) cb 2 (.int .i64 g)
  have hb1 := (three_set (y := .int .i64 g) hb).1
  have hbel1 := hbel.setCell (p := ⟨cb, 2, none⟩) hcb (.int .i64 g)
  obtain ⟨W, hW⟩ : ∃ W, W = w.setCell ⟨cb, 2, none⟩ (.int .i64 g) := ⟨_, rfl⟩
  rw [← hW] at hb1 hbel1 hgr
  have HW := Lib.hid hW
  have HB := Lib.hid hb
  clear hg hW hb
  go_enter Try.func135, Try.ntmps135
  go_wp2_with fail
  rw [HG.out, ← HW.out]
  clear c0 c1 c2 f2
  obtain ⟨d0, d1, d2⟩ := three_cell hb1
  obtain ⟨v1, hv1, e1'⟩ := and_mask (bits .xor .i64 (g / 8589934592) (g / 35184372088832)) 255 (by decide)
  have e1 : bits .and .i64 (bits .xor .i64 (g / 8589934592) (g / 35184372088832)) 255 = (v1 : Int) := e1'
  have HB1 := Lib.hid hb1
  clear e1' hb1
  refine wp_region_quiet_lit (by kernel_rfl) (by kernel_rfl) ?_
  repeat (any_goals (first | go_big_quiet_step (fail) | quiet_step (fail)))
  refine wpQuiet_nil ?_
  intro _ hw'
  obtain ⟨nq, hw''⟩ := hw'
  subst hw''
  have nq1 := nq
  by_cases hlt : i < n
  · have hb1 := HB1.out
    rcases hbt.2.2 with h0 | ⟨b, off, rfl, hbB, hcell⟩
    · omega
    obtain ⟨v, hv, dv0⟩ := hcell i hlt
    have dv := (hbel1.cell (p := ⟨b, off + i, none⟩) hbB).trans dv0
    obtain ⟨v2, hv2, e2'⟩ := and_mask ((v1 : Int) + (v : Int)) 255 (by decide)
    have e2 : bits .and .i64 ((v1 : Int) + (v : Int)) 255 = (v2 : Int) := e2'
    have hlti : (i : Int) < n := by omega
    have hi0 : (0 : Int) ≤ (i : Int) := by omega
    have f1 := three_free hb1 1
    have hwi : IntKind.i64.wrap ((i : Int) + 1) = (i : Int) + 1 := by rw [IntKind.wrap_i64]; omega
    have hwv : IntKind.i64.wrap ((v1 : Int) + (v : Int)) = (v1 : Int) + (v : Int) := by rw [IntKind.wrap_i64]; omega
    have hwb : IntKind.i64.wrap (v : Int) = (v : Int) := by rw [IntKind.wrap_i64]; omega
    clear e1 e2' hcell dv0 hb1
    go_wp2_with fail
    refine wp_region_quiet_lit (by kernel_rfl) (by kernel_rfl) ?_
    repeat (any_goals (first | go_big_quiet_step (fail) | quiet_step (fail)))
    refine wpQuiet_nil ?_
    intro _ hw'
    obtain ⟨nq, hw''⟩ := hw'
    subst hw''
    go_wp2_with fail
    refine wp_region_quiet_lit (by kernel_rfl) (by kernel_rfl) ?_
    repeat (any_goals (first | go_big_quiet_step (fail) | quiet_step (fail)))
    refine wpQuiet_nil ?_
    intro _ hw'
    obtain ⟨nq, hw''⟩ := hw'
    subst hw''
    go_wp2_with fail
    go_ret
    refine ⟨v2, rfl, hv2, ⟨hbt, hcb, ⟨i + 1, g, by omega, hg2, ?_⟩, ?_⟩, ?_⟩
    · exact (three_set (w := W) (y := .int .i64 ((i : Int) + 1)) HB1.out).2
    · exact (below_drewN hbel1 _).setCell (p := ⟨cb, 1, none⟩) hcb _
    · exact grown_trans (grown_drewN hgr _) (grown_setK _ _ _)
  · have hlti : (n : Int) ≤ i := by omega
    clear e1
    go_wp2_with fail
    refine wp_region_quiet_lit (by kernel_rfl) (by kernel_rfl) ?_
    repeat (any_goals (first | go_big_quiet_step (fail) | quiet_step (fail)))
    refine wpQuiet_nil ?_
    intro _ hw'
    obtain ⟨nq, hw''⟩ := hw'
    subst hw''
    go_wp2_with fail
    go_ret
    exact ⟨v1, rfl, hv1, ⟨hbt, hcb, ⟨i, g, hi, hg2, HB1.out⟩, below_drewN (below_drewN hbel1 _) _⟩, grown_drewN (grown_drewN hgr _) _⟩

set_option maxRecDepth 20000 in
set_option maxHeartbeats 1600000 in
theorem below_any (w0 : World) (a : Option Addr) (cap n cb : Nat) (N : Int) (w : World) (hc : CW w0 a n cap cb w) (hn : n ≤ 2000000) (hN : N ≤ 2000000000) :
    Calls Try.prog 99 #[.pointer (some ⟨cb, 0, none⟩), .int .i64 N] w fun e w' => ∃ x : Nat, e = .returned (.int .i64 (x : Int)) ∧ (x = 0 ∨ (x : Int) < N) ∧ CW w0 a n cap cb w' ∧ w.grownBy w' (some cb) := by
  by_cases h0 : N ≤ 0
  · go_enter Try.func99, Try.ntmps99
    go_wp2_with fail
    go_ret
    exact ⟨0, rfl, .inl rfl, hc, World.grownBy.refl _ _⟩
  · by_cases h1 : N ≤ 256
    · have CB := Lib.hid (fun w hc => byte_any w0 a cap n cb w hc hn)
      go_enter Try.func99, Try.ntmps99
      go_wp2_with fail
      refine (CB.out _ hc).mono ?_; rintro e w1 ⟨x, rfl, hx, hc1, g1⟩
      have hN0 : ¬ N = 0 := by omega
      have t1 : (x : Int).tmod N = (x : Int) % N := Int.tmod_eq_emod_of_nonneg (by omega)
      have h5 : 0 ≤ (x : Int) % N ∧ (x : Int) % N < N := ⟨Int.emod_nonneg _ (by omega), Int.emod_lt_of_pos _ (by omega)⟩
      obtain ⟨M, hM⟩ : ∃ M : Nat, (M : Int) = (x : Int) % N := ⟨((x : Int) % N).toNat, by omega⟩
      have hMN : (M : Int) < N := by omega
      rw [← hM] at t1
      have HM := Lib.hid hM.symm
      clear hM h5
      go_wp2_with fail
      go_ret
      exact ⟨M, by simp, .inr hMN, hc1, g1⟩
    · have h1' : 256 < N := by omega
      have CB := Lib.hid (fun w hc => byte_any w0 a cap n cb w hc hn)
      go_enter Try.func99, Try.ntmps99
      go_wp2_with fail
      refine (CB.out _ hc).mono ?_; rintro e w1 ⟨x, rfl, hx, hc1, g1⟩
      go_wp2_with fail
      refine (CB.out _ hc1).mono ?_; rintro e w2 ⟨y, rfl, hy, hc2, g2⟩
      go_wp2_with fail
      refine (CB.out _ hc2).mono ?_; rintro e w3 ⟨z, rfl, hz, hc3, g3⟩
      go_wp2_with fail
      refine (CB.out _ hc3).mono ?_; rintro e w4 ⟨u, rfl, hu, hc4, g4⟩
      have hG := grown_trans (grown_trans (grown_trans g1 g2) g3) g4
      obtain ⟨S, hS⟩ : ∃ S : Nat, S = x * 16777216 + y * 65536 + z * 256 + u := ⟨_, rfl⟩
      have hS2 : (x : Int) * 16777216 + y * 65536 + z * 256 + u = (S : Int) := by omega
      have hN0 : ¬ N = 0 := by omega
      have h5 : 0 ≤ (S : Int) % N ∧ (S : Int) % N < N := ⟨Int.emod_nonneg _ (by omega), Int.emod_lt_of_pos _ (by omega)⟩
      obtain ⟨M, hM⟩ : ∃ M : Nat, (M : Int) = (S : Int) % N := ⟨((S : Int) % N).toNat, by omega⟩
      have hMN : (M : Int) < N := by omega
      have hM2 : ((x : Int) * 16777216 + y * 65536 + z * 256 + u) % N = (M : Int) := by rw [hS2, hM]
      have HM := Lib.hid hM2
      clear hM h5 hM2 hS2 hS g1 g2 g3 g4 hc1 hc2 hc3
      go_wp2_with fail
      go_ret
      exact ⟨M, by simp; exact HM.out, .inr hMN, hc4, hG⟩

set_option maxHeartbeats 800000 in
theorem once_any (w0 : World) (a : Option Addr) (cap n cb : Nat) (N : Int) (w : World) (hc : CW w0 a n cap cb w) (hn : n ≤ 2000000) (hN : N ≤ 2000000000) :
    Calls Try.prog 97 #[.pointer (some ⟨cb, 0, none⟩), .int .i64 N] w fun e w' => ∃ b : Bool, e = .returned (.bool b) ∧ CW w0 a n cap cb w' ∧ w.grownBy w' (some cb) := by
  have CB := Lib.hid (below_any w0 a cap n cb N w hc hn hN)
  go_enter Try.func97, Try.ntmps97
  go_wp2_with fail
  refine CB.out.mono ?_; rintro e w1 ⟨x, rfl, hx, hc1, g1⟩
  go_wp2_with fail
  go_ret
  exact ⟨_, rfl, hc1, g1⟩

set_option maxHeartbeats 800000 in
theorem pick_any (w0 : World) (a : Option Addr) (cap n cb : Nat) (al : Option Addr) (cl : Nat) (xs : List Int) (w : World) (hc : CW w0 a n cap cb w) (hn : n ≤ 2000000) (h0 : Ints w al cl xs) (hne : ∀ y, al = some y → y.block ≠ cb) (hx : 1 ≤ xs.length) (hl : xs.length ≤ 2000000) :
    Calls Try.prog 134 #[.pointer (some ⟨cb, 0, none⟩), .slice al xs.length cl] w fun e w' => ∃ x : Int, e = .returned (.int .i64 x) ∧ x ∈ xs ∧ CW w0 a n cap cb w' ∧ w.grownBy w' (some cb) := by
  have CB := Lib.hid (below_any w0 a cap n cb (xs.length : Int) w hc hn (by omega))
  have H0 := Lib.hid h0
  have HN := Lib.hid hne
  clear h0 hne
  go_enter Try.func134, Try.ntmps134
  go_wp2_with fail
  refine CB.out.mono ?_; rintro e w1 ⟨x, rfl, hx2, hc1, g1⟩
  have hxl : x < xs.length := by omega
  have h1 := H0.out.grown g1 (fun y hy e => HN.out y hy (by simpa using e.symm))
  rcases h1.2.2.2.2 with hcs | ⟨b, off, rfl, hbB, hcell⟩
  · subst hcs; simp at hxl
  have d1 := hcell x hxl
  have HM := Lib.hid (List.getElem_mem hxl)
  obtain ⟨v, hv⟩ : ∃ v, v = xs[x] := ⟨_, rfl⟩
  rw [← hv] at d1 HM
  have hxi : (x : Int) < xs.length := by omega
  clear hcell hv h1
  go_wp2_with fail
  go_ret
  exact ⟨v, rfl, HM.out, hc1, g1⟩
end Go.Proofs.Ytokpgbpdmfibjaa
