/-
Several texts in one: A group in its box, kept from world to world. No condition. The opening of a law's argument that is a slice of bytes. No condition. The great laws' own helpers: whether a code is too long, whether two lists are the same. Conditions: lengths at most 2000000. Maps that keep sums compose with their inverses, sets that are alike have equal sums, and ranks count maps. No condition.
-/
import Derived.Test.YtokpgbpdmfibjaaDrw4
import Derived.Deep.RegionHeld3
import Derived.Test.YtokpgbpdmfibjaaDrw
import Derived.Test.YtokpgbpdmfibjaaOpen
import Derived.Test.YtokpgbpdmfibjaaHelp
import Derived.Test.YtokpgbpdmfibjaaFr0
import Derived.Test.YtokpgbpdmfibjaaDrx
import Derived.Test.YtokpgbpdmfibjaaFfx
import Derived.Deep.CutRange
namespace Go.Proofs.Ytokpgbpdmfibjaa
open Go.RowKit Go.ChangeShapes
set_option linter.unusedVariables false

structure KS (bx : Nat) (ag : Option Addr) (cg : Nat) (xs : List Int) (w : World) : Prop where
  own : Ints w ag cg xs
  cell : w.cell? ⟨bx, 0, none⟩ = some (.slice ag xs.length cg)
  lt : bx < w.heap.size
theorem KS.next {bx : Nat} {ag : Option Addr} {cg : Nat} {xs : List Int} {w w1 : World} (h : KS bx ag cg xs w) (b : Below w.heap.size w w1) : KS bx ag cg xs w1 :=
  ⟨h.own.below b (Nat.le_refl _), (b.cell (p := ⟨bx, 0, none⟩) h.lt).trans h.cell, Nat.lt_of_lt_of_le h.lt b.size⟩
theorem KS.drew {bx : Nat} {ag : Option Addr} {cg : Nat} {xs : List Int} {w : World} (h : KS bx ag cg xs w) : KS bx ag cg xs w.drew := ⟨h.own, h.cell, h.lt⟩
theorem KS.drewN {bx : Nat} {ag : Option Addr} {cg : Nat} {xs : List Int} {w : World} (h : KS bx ag cg xs w) (n : Nat) : KS bx ag cg xs (w.drewN n) := ⟨h.own, h.cell, h.lt⟩
theorem KS.start {B : Nat} {ag : Option Addr} {cg : Nat} {xs : List Int} {w : World} (h : OwnI w B ag cg xs) : KS w.heap.size ag cg xs (w.alloc (.cells #[.slice ag xs.length cg] 26)) := by
  have al := (Below.refl w.heap.size w).alloc (Nat.le_refl _) (.cells #[.slice ag xs.length cg] 26)
  exact ⟨h.ints.below al (Nat.le_refl _), cell_of_one (new_at rfl), by simp⟩
theorem below_alloc (w : World) (o : Obj) : Below w.heap.size w (w.alloc o) := (Below.refl w.heap.size w).alloc (Nat.le_refl _) o
theorem below_drew {B : Nat} {a w : World} (h : Below B a w) : Below B a w.drew := ⟨h.os, h.tape, h.output, h.size, h.block⟩
end Go.Proofs.Ytokpgbpdmfibjaa

namespace Go.Proofs.Ytokpgbpdmfibjaa
open Go.ChangeShapes Go.WideShapes Go.ChangeAt Go.RowKit Go.Joins

theorem bts_of {w : World} {x : Addr} {len cap : Nat} {zs : List Int} (hl : len ≤ cap) (hm : cap ≤ maxLen) (hz : zs.length = cap)
    (hcell : ∀ i, i < zs.length → w.cell? (x.add i) = some (.int .u8 (zs.getD i 0))) (hwz : ∀ n ∈ zs, (Lit.int .u8 n).wf = true) : BtS w (some x) cap len := by
  refine ⟨hl, hm, ?_⟩
  by_cases h0 : len = 0
  · exact .inl h0
  · obtain ⟨b, off, spot⟩ := x
    have hc := hcell 0 (by omega)
    have hspot : spot = none := by simpa [Addr.add] using World.cell?_spot hc
    subst hspot
    refine .inr ⟨b, off, rfl, ?_, fun i hi => ?_⟩
    · have := World.block_lt_of_cell? _ _ hc
      simpa [Addr.add] using this
    · have h3 := hcell i (by omega)
      have h4 : (⟨b, off, none⟩ : Addr).add i = ⟨b, off + i, none⟩ := Addr.add_lit _ _ _
      rw [h4] at h3
      have h5 : zs.getD i 0 = zs[i]'(by omega) := by
        rw [List.getD_eq_getElem?_getD, List.getElem?_eq_getElem (by omega)]; rfl
      have h6 := hwz _ (List.getElem_mem (show i < zs.length by omega))
      rw [h5] at h3
      have h7 : 0 ≤ zs[i]'(by omega) ∧ zs[i]'(by omega) ≤ 255 := by
        have h8 : IntKind.u8.min ≤ zs[i]'(by omega) ∧ zs[i]'(by omega) ≤ IntKind.u8.max := by simpa [Lit.wf] using h6
        exact h8
      exact ⟨(zs[i]'(by omega)).toNat, by omega, by rw [h3]; congr 2; omega⟩

set_option maxRecDepth 100000 in
theorem bytes_trod {H : Type} {enc : TypeId × Value → H} {W : World} {v : Value} {fuel : Nat} {x : DataW H × List MemPlace}
    (hf : DataW.trod enc Try.prog W 0 (fun _ => true) true fuel 22 [v] = some x) :
    ∃ a c n, v = .slice a n c ∧ BtS W a c n := by
  rcases open_ints Try.underlying22 Try.underlying5 (by kernel_rfl) hf with ⟨hcs, _⟩ | ⟨x, l, c, zs, hcs, _, hl, hm, hz, _, hcell, hwz⟩
  · simp at hcs
    subst hcs
    exact ⟨none, 0, 0, rfl, by simp, by simp [maxLen], .inl rfl⟩
  · simp at hcs
    subst hcs
    exact ⟨some x, c, l, rfl, bts_of hl hm (by simpa using hz) hcell hwz⟩

set_option maxRecDepth 100000 in
theorem open_bytes {H : Type} {enc : TypeId × Value → H} {W : World} {r : Reach} {b0 : Nat} {v : Value} {d : DataW H} {p : List MemPlace} (hv : Value.okWide Try.prog W r b0 22 v)
    (h : DataW.Trod enc Try.prog W 0 (fun _ => true) true 22 v d p) : ∃ a c n, v = .slice a n c ∧ BtS W a c n := by
  obtain ⟨a, len, cap, rfl⟩ := okWide_slice Try.underlying22 hv
  obtain ⟨fuel, hf⟩ := h
  exact bytes_trod (by simpa [Value.cells] using hf)
end Go.Proofs.Ytokpgbpdmfibjaa

namespace Go.Proofs.Ytokpgbpdmfibjaa
open Go.RowKit Go.ChangeShapes
set_option linter.unusedVariables false

theorem take_eq_stepS {xs ys : List Int} {k : Nat} (h1 : k < xs.length) (h2 : k < ys.length) (h : xs.take k = ys.take k) (e : xs[k] = ys[k]) : xs.take (k + 1) = ys.take (k + 1) := by
  rw [take_snoc' xs k h1, take_snoc' ys k h2, h, e]
set_option maxHeartbeats 800000 in
theorem sameInts_any (a0 a1 : Option Addr) (c0 c1 : Nat) (xs ys : List Int) (w : World) (h0 : Ints w a0 c0 xs) (h1 : Ints w a1 c1 ys) (hl : xs.length ≤ 2000000) (hl' : ys.length ≤ 2000000) :
    Calls Try.prog 39 #[.slice a0 xs.length c0, .slice a1 ys.length c1] w fun e w' => e = .returned (.bool (decide (xs = ys))) ∧ Below w.heap.size w w' := by
  obtain ⟨-, -, -, -, hcs⟩ := h0
  obtain ⟨-, -, -, -, hcs'⟩ := h1
  by_cases hlen : (xs.length : Int) = ys.length
  · have H0 := Lib.hid hcs
    have H1 := Lib.hid hcs'
    have HL := Lib.hid hlen
    have hne : ((xs.length : Int) != ys.length) = false := by simp; omega
    clear hcs hcs' hlen
    go_enter Try.func39, Try.ntmps39
    go_wp2
    go_loopw [5] (fun i wr => ∃ k : Nat, k ≤ xs.length ∧ i = .int .i64 k ∧ Hid (xs.take k = ys.take k) ∧ Below w.heap.size w wr) (fun i _ => xs.length - (intOf i).toNat)
    case atStart => exact ⟨0, Nat.zero_le _, rfl, by simp [Hid], Below.refl _ _⟩
    case round =>
      obtain ⟨k, hk, rfl, HT, hbel⟩ := hrel
      have hn := HL.out
      by_cases hlt : k < xs.length
      · have hlt' : k < ys.length := by omega
        clear hn
        have H0' := H0.out
        have H1' := H1.out
        rcases H0' with hcs | ⟨b, off, rfl, hbB, hcell⟩
        · subst hcs; simp at hlt
        rcases H1' with hcs | ⟨b', off', rfl, hbB', hcell'⟩
        · subst hcs; simp at hlt'
        have hc : wr.cell? ⟨b, off + k, none⟩ = some (.int .i64 (xs[k]'hlt)) := (hbel.cell (p := ⟨b, off + k, none⟩) hbB).trans (hcell k hlt)
        have hc' : wr.cell? ⟨b', off' + k, none⟩ = some (.int .i64 (ys[k]'hlt')) := (hbel.cell (p := ⟨b', off' + k, none⟩) hbB').trans (hcell' k hlt')
        obtain ⟨x, hx⟩ : ∃ x, x = xs[k]'hlt := ⟨_, rfl⟩
        obtain ⟨y, hy⟩ : ∃ y, y = ys[k]'hlt' := ⟨_, rfl⟩
        rw [← hx] at hc
        rw [← hy] at hc'
        have HX := Lib.hid hx
        have HY := Lib.hid hy
        clear hx hy hcell hcell' H0 H1
        have hi1 : (k : Int) < (xs.length : Int) := by omega
        have hi2 : (k : Int) < (ys.length : Int) := by omega
        by_cases hxy : x = y
        · subst hxy
          go_wp2
          go_quiet (fail)
          go_wp2
          go_roundw
          case rel => exact ⟨k + 1, by omega, by go_num, take_eq_stepS hlt hlt' HT.out (HX.out.symm.trans HY.out), below_drewN hbel _⟩
          case measure => simp [intOf]; omega
        · have hb : (x != y) = true := by simpa using hxy
          have HXY := Lib.hid hxy
          clear hxy
          go_wp2
          go_quiet (fail)
          go_wp2
          go_ret
          refine ⟨ret_bool ?_, below_drewN hbel _⟩
          symm
          rw [decide_eq_false_iff_not]
          intro e
          subst e
          exact HXY.out (HX.out.trans HY.out.symm)
      · have hkn : k = xs.length := by omega
        have e : xs = ys := by
          have := HT.out
          rw [List.take_of_length_le (by omega), List.take_of_length_le (by omega)] at this
          exact this
        clear hn hkn
        have HE := Lib.hid e
        clear e
        go_wp2
        go_ret
        exact ⟨ret_bool (by simp [HE.out]), hbel⟩
  · have hne : ((xs.length : Int) != ys.length) = true := by simp; omega
    have HL := Lib.hid hlen
    clear hlen
    go_enter Try.func39, Try.ntmps39
    go_wp2
    go_ret
    refine ⟨ret_bool ?_, Below.refl _ _⟩
    symm
    rw [decide_eq_false_iff_not]
    intro e
    subst e
    exact HL.out rfl

set_option maxHeartbeats 800000 in
theorem big_any (a : Option Addr) (cap n : Nat) (w : World) :
    Calls Try.prog 6 #[.slice a n cap] w fun e w' => e = .returned (.bool (decide (1048576 < n))) ∧ Below w.heap.size w w' := by
  go_enter Try.func6, Try.ntmps6
  go_wp2_with fail
  go_ret
  exact ⟨ret_bool (by rw [Bool.eq_iff_iff]; simp; omega), Below.refl _ _⟩
end Go.Proofs.Ytokpgbpdmfibjaa

namespace Go.Proofs.Ytokpgbpdmfibjaa
open Go.ChangeShapes Go.RowKit
set_option linter.unusedVariables false
set_option linter.unusedSimpArgs false

theorem KS.start2 {B : Nat} {ag : Option Addr} {cg : Nat} {xs : List Int} {ah : Option Addr} {ch : Nat} {ys : List Int} {w : World} (h : OwnI w B ag cg xs) (k : OwnI w B ah ch ys) :
    KS w.heap.size ag cg xs ((w.alloc (.cells #[.slice ag xs.length cg] 26)).alloc (.cells #[.slice ah ys.length ch] 26)) ∧ KS (w.heap.size + 1) ah ch ys ((w.alloc (.cells #[.slice ag xs.length cg] 26)).alloc (.cells #[.slice ah ys.length ch] 26)) ∧
    Below w.heap.size w ((w.alloc (.cells #[.slice ag xs.length cg] 26)).alloc (.cells #[.slice ah ys.length ch] 26)) := by
  have a1 := below_alloc w (.cells #[.slice ag xs.length cg] 26)
  have a2 := below_alloc (w.alloc (.cells #[.slice ag xs.length cg] 26)) (.cells #[.slice ah ys.length ch] 26)
  have k2 := KS.start (k.below a1 (Nat.le_refl _))
  have hs : (w.alloc (.cells #[.slice ag xs.length cg] 26)).heap.size = w.heap.size + 1 := by simp
  rw [hs] at k2
  exact ⟨(KS.start h).next a2, k2, nx a1 a2⟩
theorem Ints.drewI {w : World} {a : Option Addr} {c : Nat} {xs : List Int} (h : Ints w a c xs) : Ints w.drew a c xs := h
set_option maxRecDepth 20000 in
set_option maxHeartbeats 40000000 in
theorem walk_fnFreiman (a : Option Addr) (cap n : Nat) (w : World) (hb : BtS w a cap n) :
    Calls Try.prog 5 #[.slice a n cap] w fun e w' => e = .returned (.bool true) ∧ Below w.heap.size w w' := by
  by_cases hbig : 1048576 < n
  · have hbg : decide (1048576 < n) = true := by simpa using hbig
    have C0 := big_any a cap n w
    rw [hbg] at C0
    go_enter Try.func5, Try.ntmps5
    ((try dsimp only); repeat (first | ((with_reducible (show wpList _ _ _ (List.append _ _) _ _)); simp only [List.append]) | go_values | go_skip | go_guarded | go_step | go_upon | go_back))
    refine C0.mono ?_; rintro e w1 ⟨rfl, b1⟩
    ((try dsimp only); repeat (first | ((with_reducible (show wpList _ _ _ (List.append _ _) _ _)); simp only [List.append]) | go_values | go_skip | go_guarded | go_step | go_upon | go_back))
    go_ret
    exact ⟨rfl, b1⟩
  have hn : n ≤ 2000000 := by omega
  have hbg : decide (1048576 < n) = false := by simpa using hbig
  have C0 := Lib.hid (big_any a cap n w)
  rw [hbg] at C0
  have HB := Lib.hid hb
  clear hbg hbig hb
  go_enter Try.func5, Try.ntmps5
  ((try dsimp only); repeat (first | ((with_reducible (show wpList _ _ _ (List.append _ _) _ _)); simp only [List.append]) | go_values | go_skip | go_guarded | go_step | go_upon | go_back))
  refine C0.out.mono ?_; rintro e v1 ⟨rfl, b⟩
  have BB := b
  clear C0 b
  ((try dsimp only); repeat (first | ((with_reducible (show wpList _ _ _ (List.append _ _) _ _)); simp only [List.append]) | go_values | go_skip | go_guarded | go_step | go_upon | go_back))
  have g := HB.out.below BB (Nat.le_refl _)
  refine (dFIso_any a cap n v1 g hn).mono ?_; rintro e v2 ⟨os, ag, cg, hs, ah, ch, l, al, cl, m, am, cm, rfl, hol, hhl, hll, hml, og, oh, ol, om, b⟩
  have BB := nx BB b
  have p1 := ol.ints
  clear ol
  have p2 := om.ints
  clear om
  obtain ⟨k1, k2, al⟩ := KS.start2 og oh
  have BB := nx BB al
  have p1 := p1.below al (Nat.le_refl _)
  have p2 := p2.below al (Nat.le_refl _)
  obtain ⟨v3, hwa⟩ : ∃ W, W = (v2.alloc (.cells #[.slice ag os.length cg] 26)).alloc (.cells #[.slice ah hs.length ch] 26) := ⟨_, rfl⟩
  rw [← hwa] at BB p1 p2 k1 k2
  have H_v3 := Lib.hid hwa
  clear hwa al b g og oh
  have F1 := Lib.hid (fun w a b c d => fs_impl ag cg os ah ch hs al cl l am cm m w a b c d (by omega) (by omega) (by omega) (by omega))
  have F2 := Lib.hid (fun w a b c d => fs_spec ag cg os ah ch hs al cl l am cm m w a b c d (by omega) (by omega) (by omega) (by omega))
  have F3 := Lib.hid (fun w a b c d => fs_impl ah ch hs ag cg os am cm m al cl l w a b c d (by omega) (by omega) (by omega) (by omega))
  have F4 := Lib.hid (fun w a b c d => fm_impl ag cg os ah ch hs al cl l am cm m w a b c d (by omega) (by omega) (by omega) (by omega))
  rw [← fs_comm os hs l m] at F3
  have HI := Lib.hid (iso_facts (os := os) (hs := hs) (l := l) (m := m))
  obtain ⟨q, hq⟩ : ∃ q, q = fsB os hs l m := ⟨_, rfl⟩
  rw [← hq] at F1 F2 F3 HI
  clear hq
  have q_k1 := k1.cell
  have q_k2 := k2.cell
  ((try dsimp only); repeat (first | ((with_reducible (show wpList _ _ _ (List.append _ _) _ _)); simp only [List.append]) | go_values | go_skip | go_guarded | go_step | go_upon | go_back))
  clear q_k1 q_k2
  rw [← H_v3.out]
  refine (F1.out _ k1.own k2.own p1 p2).mono ?_; rintro e v4 ⟨rfl, b⟩
  have BB := nx BB b
  have k1 := k1.next b
  have k2 := k2.next b
  have p1 := p1.below b (Nat.le_refl _)
  have p2 := p2.below b (Nat.le_refl _)
  clear b F1
  go_upto_region 5 with fail
  go_cut [79] from 39 to 79 (fun s79 wx => s79 = .bool false ∧ Below w.heap.size w wx ∧ KS v2.heap.size ag cg os wx ∧ KS (v2.heap.size + 1) ah ch hs wx ∧ Ints wx al cl l ∧ Ints wx am cm m)
  case first =>
    cases q with
    | true =>
      obtain ⟨A, B, C, E, S, i1, i2, i3, i4, i5, i6, i7, i8, i9, i10, i11, i12, i13⟩ := HI.out rfl
      rw [i13] at F4
      clear i1 i2 i3 i4 i5 i6 i7 i8 i9 i10 i11 i12 i13
      have q_k1 := k1.cell
      have q_k2 := k2.cell
      ((try dsimp only); repeat (first | ((with_reducible (show wpList _ _ _ (List.append _ _) _ _)); simp only [List.append]) | go_values | go_skip | go_guarded | go_step | go_upon | go_back))
      clear q_k1 q_k2
      refine (F2.out _ k1.own k2.own p1 p2).mono ?_; rintro e v6 ⟨rfl, b⟩
      have BB := nx BB b
      have k1 := k1.next b
      have k2 := k2.next b
      have p1 := p1.below b (Nat.le_refl _)
      have p2 := p2.below b (Nat.le_refl _)
      clear b F2
      have q_k1 := k1.cell
      have q_k2 := k2.cell
      ((try dsimp only); repeat (first | ((with_reducible (show wpList _ _ _ (List.append _ _) _ _)); simp only [List.append]) | go_values | go_skip | go_guarded | go_step | go_upon | go_back))
      clear q_k1 q_k2
      refine (F3.out _ k2.own k1.own p2 p1).mono ?_; rintro e v7 ⟨rfl, b⟩
      have BB := nx BB b
      have k1 := k1.next b
      have k2 := k2.next b
      have p1 := p1.below b (Nat.le_refl _)
      have p2 := p2.below b (Nat.le_refl _)
      clear b F3
      have q_k1 := k1.cell
      have q_k2 := k2.cell
      ((try dsimp only); repeat (first | ((with_reducible (show wpList _ _ _ (List.append _ _) _ _)); simp only [List.append]) | go_values | go_skip | go_guarded | go_step | go_upon | go_back))
      clear q_k1 q_k2
      refine (F4.out _ k1.own k2.own p1 p2).mono ?_; rintro e v8 ⟨rfl, b⟩
      have BB := nx BB b
      have k1 := k1.next b
      have k2 := k2.next b
      have p1 := p1.below b (Nat.le_refl _)
      have p2 := p2.below b (Nat.le_refl _)
      clear b F4
      ((try dsimp only); repeat (first | ((with_reducible (show wpList _ _ _ (List.append _ _) _ _)); simp only [List.append]) | go_values | go_skip | go_guarded | go_step | go_upon | go_back))
      go_meet
      exact ⟨rfl, BB, k1, k2, p1, p2⟩
    | false =>
      have q_k1 := k1.cell
      have q_k2 := k2.cell
      ((try dsimp only); repeat (first | ((with_reducible (show wpList _ _ _ (List.append _ _) _ _)); simp only [List.append]) | go_values | go_skip | go_guarded | go_step | go_upon | go_back))
      clear q_k1 q_k2
      refine (F2.out _ k1.own k2.own p1 p2).mono ?_; rintro e v9 ⟨rfl, b⟩
      have BB := nx BB b
      have k1 := k1.next b
      have k2 := k2.next b
      have p1 := p1.below b (Nat.le_refl _)
      have p2 := p2.below b (Nat.le_refl _)
      clear b F2
      have q_k1 := k1.cell
      have q_k2 := k2.cell
      ((try dsimp only); repeat (first | ((with_reducible (show wpList _ _ _ (List.append _ _) _ _)); simp only [List.append]) | go_values | go_skip | go_guarded | go_step | go_upon | go_back))
      clear q_k1 q_k2
      refine (F3.out _ k2.own k1.own p2 p1).mono ?_; rintro e v10 ⟨rfl, b⟩
      have BB := nx BB b
      have k1 := k1.next b
      have k2 := k2.next b
      have p1 := p1.below b (Nat.le_refl _)
      have p2 := p2.below b (Nat.le_refl _)
      clear b F3
      ((try dsimp only); repeat (first | ((with_reducible (show wpList _ _ _ (List.append _ _) _ _)); simp only [List.append]) | go_values | go_skip | go_guarded | go_step | go_upon | go_back))
      go_meet
      exact ⟨rfl, BB, k1, k2, p1, p2⟩
  case rest =>
  obtain ⟨rfl, BB, k1, k2, p1, p2⟩ := hcut
  clear F2 F3 F4
  go_upto_if 80 with fail
  go_cut [] from 39 to 80 (fun wx => Below w.heap.size w wx)
  case first =>
    cases q with
    | true =>
      have V1 := Lib.hid (fun w h k => setOf_spec ag cg os al cl l w h k (by omega) (by omega))
      have V2 := Lib.hid (fun w h k => setOf_spec ah ch hs am cm m w h k (by omega) (by omega))
      obtain ⟨A, B, C, E, S, i1, i2, i3, i4, i5, i6, i7, i8, i9, i10, i11, i12, i13⟩ := HI.out rfl
      rw [i1] at V1
      rw [i2] at V2
      have D1 := Lib.hid (fun w h => sos_spec ag cg os (A : Int) (A : Int) w h (by omega))
      have D2 := Lib.hid (fun w h => sos_spec ah ch hs (B : Int) (B : Int) w h (by omega))
      have N1 := Lib.hid (fun w h => cntS_spec ag cg os (sosV os (A : Int) (A : Int)) w h (by omega))
      have N2 := Lib.hid (fun w h => cntS_spec ah ch hs (sosV hs (B : Int) (B : Int)) w h (by omega))
      rw [i7] at N1
      rw [i8] at N2
      obtain ⟨U, hU⟩ : ∃ U, U = sosV os (A : Int) (A : Int) := ⟨_, rfl⟩
      obtain ⟨V, hV⟩ : ∃ V, V = sosV hs (B : Int) (B : Int) := ⟨_, rfl⟩
      rw [← hU] at D1 N1
      rw [← hV] at D2 N2
      have E1 := Lib.hid (fun w h => energy_spec ag cg os A A w h (by omega) i3 i5 i5)
      have E2 := Lib.hid (fun w h => energy_spec ah ch hs B B w h (by omega) i4 i6 i6)
      rw [i9] at E1
      rw [i10] at E2
      have T1 := Lib.hid (fun w h => sid_impl ag cg os (A : Int) w h (by omega))
      have T2 := Lib.hid (fun w h => sid_impl ah ch hs (B : Int) w h (by omega))
      rw [i11] at T1
      rw [i12] at T2
      clear hU hV i1 i2 i3 i4 i5 i6 i7 i8 i9 i10 i11 i12 i13 HI
      have q_k1 := k1.cell
      have q_k2 := k2.cell
      ((try dsimp only); repeat (first | ((with_reducible (show wpList _ _ _ (List.append _ _) _ _)); simp only [List.append]) | go_values | go_skip | go_guarded | go_step | go_upon | go_back))
      clear q_k1 q_k2
      refine (V1.out _ k1.own p1).mono ?_; rintro e v12 ⟨rfl, b⟩
      have BB := nx BB b
      have k1 := k1.next b
      have k2 := k2.next b
      have p1 := p1.below b (Nat.le_refl _)
      have p2 := p2.below b (Nat.le_refl _)
      clear b V1
      have q_k1 := k1.cell
      have q_k2 := k2.cell
      ((try dsimp only); repeat (first | ((with_reducible (show wpList _ _ _ (List.append _ _) _ _)); simp only [List.append]) | go_values | go_skip | go_guarded | go_step | go_upon | go_back))
      clear q_k1 q_k2
      refine (V2.out _ k2.own p2).mono ?_; rintro e v13 ⟨rfl, b⟩
      have BB := nx BB b
      have k1 := k1.next b
      have k2 := k2.next b
      have p1 := p1.below b (Nat.le_refl _)
      have p2 := p2.below b (Nat.le_refl _)
      clear b V2
      clear p1 p2
      have q_k1 := k1.cell
      have q_k2 := k2.cell
      ((try dsimp only); repeat (first | ((with_reducible (show wpList _ _ _ (List.append _ _) _ _)); simp only [List.append]) | go_values | go_skip | go_guarded | go_step | go_upon | go_back))
      clear q_k1 q_k2
      have BB := below_drew BB
      have k1 := k1.drew
      have k2 := k2.drew
      refine wp_region_held_drew (S := (fun w' => w'.cell? ⟨v2.heap.size, 0, none⟩ = some (.slice ag os.length cg) ∧ w'.cell? ⟨v2.heap.size + 1, 0, none⟩ = some (.slice ah hs.length ch))) (by as_aux_lemma => kernel_rfl) ⟨k1.cell, k2.cell⟩ (fun hHeld => ?_)
      refine wpAnyH_take (i := 0) (v := ?_) rfl (by as_aux_lemma => kernel_rfl) (by as_aux_lemma => kernel_rfl) (by as_aux_lemma => kernel_rfl) (fun _ _ _ h => h) (Or.inl ⟨by first | kernel_rfl | rfl, ?_⟩) (by assumption) ?_
      rotate_left
      · intro w hSw
        (try dsimp only at hSw)
        (try go_split_ands)
        go_simp
        try with_reducible rfl
      (try simp only [Act.put, List.setIfInBounds_toArray, List.set_cons_zero, List.set_cons_succ])
      refine wpAnyH_take (i := 1) (v := ?_) rfl (by as_aux_lemma => kernel_rfl) (by as_aux_lemma => kernel_rfl) (by as_aux_lemma => kernel_rfl) (fun _ _ _ h => h) (Or.inl ⟨by first | kernel_rfl | rfl, ?_⟩) (by assumption) ?_
      rotate_left
      · intro w hSw
        (try dsimp only at hSw)
        (try go_split_ands)
        go_simp
        try with_reducible rfl
      (try simp only [Act.put, List.setIfInBounds_toArray, List.set_cons_zero, List.set_cons_succ])
      refine wpAnyH_take (i := 2) (v := ?_) rfl (by as_aux_lemma => kernel_rfl) (by as_aux_lemma => kernel_rfl) (by as_aux_lemma => kernel_rfl) (fun _ _ _ h => h) (Or.inl ⟨by first | kernel_rfl | rfl, ?_⟩) (by assumption) ?_
      rotate_left
      · intro w hSw
        (try dsimp only at hSw)
        (try go_split_ands)
        go_simp
        try with_reducible rfl
      (try simp only [Act.put, List.setIfInBounds_toArray, List.set_cons_zero, List.set_cons_succ])
      refine wpAnyH_take (i := 3) (v := ?_) rfl (by as_aux_lemma => kernel_rfl) (by as_aux_lemma => kernel_rfl) (by as_aux_lemma => kernel_rfl) (fun _ _ _ h => h) (Or.inl ⟨by first | kernel_rfl | rfl, ?_⟩) (by assumption) ?_
      rotate_left
      · intro w hSw
        (try dsimp only at hSw)
        (try go_split_ands)
        go_simp
        try with_reducible rfl
      (try simp only [Act.put, List.setIfInBounds_toArray, List.set_cons_zero, List.set_cons_succ])
      refine wpAnyH_take (i := 6) (v := ?_) rfl (by as_aux_lemma => kernel_rfl) (by as_aux_lemma => kernel_rfl) (by as_aux_lemma => kernel_rfl) (fun _ _ _ h => h) (Or.inl ⟨by first | kernel_rfl | rfl, ?_⟩) (by assumption) ?_
      rotate_left
      · intro w hSw
        (try dsimp only at hSw)
        (try go_split_ands)
        go_simp
        try with_reducible rfl
      (try simp only [Act.put, List.setIfInBounds_toArray, List.set_cons_zero, List.set_cons_succ])
      refine wpAnyH_take (i := 7) (v := ?_) rfl (by as_aux_lemma => kernel_rfl) (by as_aux_lemma => kernel_rfl) (by as_aux_lemma => kernel_rfl) (fun _ _ _ h => h) (Or.inl ⟨by first | kernel_rfl | rfl, ?_⟩) (by assumption) ?_
      rotate_left
      · intro w hSw
        (try dsimp only at hSw)
        (try go_split_ands)
        go_simp
        try with_reducible rfl
      (try simp only [Act.put, List.setIfInBounds_toArray, List.set_cons_zero, List.set_cons_succ])
      refine wpAnyH_take (i := 8) (v := ?_) rfl (by as_aux_lemma => kernel_rfl) (by as_aux_lemma => kernel_rfl) (by as_aux_lemma => kernel_rfl) (fun _ _ _ h => h) (Or.inl ⟨by first | kernel_rfl | rfl, ?_⟩) (by assumption) ?_
      rotate_left
      · intro w hSw
        (try dsimp only at hSw)
        (try go_split_ands)
        go_simp
        try with_reducible rfl
      (try simp only [Act.put, List.setIfInBounds_toArray, List.set_cons_zero, List.set_cons_succ])
      refine wpAnyH_take (i := 9) (v := ?_) rfl (by as_aux_lemma => kernel_rfl) (by as_aux_lemma => kernel_rfl) (by as_aux_lemma => kernel_rfl) (fun _ _ _ h => h) (Or.inl ⟨by first | kernel_rfl | rfl, ?_⟩) (by assumption) ?_
      rotate_left
      · intro w hSw
        (try dsimp only at hSw)
        (try go_split_ands)
        go_simp
        try with_reducible rfl
      (try simp only [Act.put, List.setIfInBounds_toArray, List.set_cons_zero, List.set_cons_succ])
      refine wpAnyH_ready (rs := [4]) (by as_aux_lemma => kernel_rfl) (by simp) ?_
      refine AllReadyH.cons rfl (fun K hK => ?_) AllReadyH.nil
      go_simp
      go_at_call 18
      refine (D1.out _ k1.own).mono ?_; rintro e u ⟨rfl, b⟩
      have BB := nx BB b
      have k1 := k1.next b
      have k2 := k2.next b
      clear b
      refine hK.out _ _ ⟨k1.cell, k2.cell⟩ (fun hHeld => ?_)
      clear hK K
      (try simp only [Act.put, List.setIfInBounds_toArray, List.set_cons_zero, List.set_cons_succ])
      refine wpAnyH_ready (rs := [5]) (by as_aux_lemma => kernel_rfl) (by simp) ?_
      refine AllReadyH.cons rfl (fun K hK => ?_) AllReadyH.nil
      go_simp
      go_at_call 55
      refine (N1.out _ k1.own).mono ?_; rintro e u ⟨rfl, b⟩
      have BB := nx BB b
      have k1 := k1.next b
      have k2 := k2.next b
      clear b
      refine hK.out _ _ ⟨k1.cell, k2.cell⟩ (fun hHeld => ?_)
      clear hK K
      (try simp only [Act.put, List.setIfInBounds_toArray, List.set_cons_zero, List.set_cons_succ])
      refine wpAnyH_ready (rs := [10]) (by as_aux_lemma => kernel_rfl) (by simp) ?_
      refine AllReadyH.cons rfl (fun K hK => ?_) AllReadyH.nil
      go_simp
      go_at_call 18
      refine (D2.out _ k2.own).mono ?_; rintro e u ⟨rfl, b⟩
      have BB := nx BB b
      have k1 := k1.next b
      have k2 := k2.next b
      clear b
      refine hK.out _ _ ⟨k1.cell, k2.cell⟩ (fun hHeld => ?_)
      clear hK K
      (try simp only [Act.put, List.setIfInBounds_toArray, List.set_cons_zero, List.set_cons_succ])
      refine wpAnyH_ready (rs := [11]) (by as_aux_lemma => kernel_rfl) (by simp) ?_
      refine AllReadyH.cons rfl (fun K hK => ?_) AllReadyH.nil
      go_simp
      go_at_call 55
      refine (N2.out _ k2.own).mono ?_; rintro e u ⟨rfl, b⟩
      have BB := nx BB b
      have k1 := k1.next b
      have k2 := k2.next b
      clear b
      refine hK.out _ _ ⟨k1.cell, k2.cell⟩ (fun hHeld => ?_)
      clear hK K
      (try simp only [Act.put, List.setIfInBounds_toArray, List.set_cons_zero, List.set_cons_succ])
      refine wpAnyH_take (i := 12) (v := ?_) rfl (by as_aux_lemma => kernel_rfl) (by as_aux_lemma => kernel_rfl) (by as_aux_lemma => kernel_rfl) (fun _ _ _ h => h) (Or.inl ⟨by first | kernel_rfl | rfl, ?_⟩) (by assumption) ?_
      rotate_left
      · intro w hSw
        (try dsimp only at hSw)
        (try go_split_ands)
        go_simp
        try with_reducible rfl
      (try simp only [Act.put, List.setIfInBounds_toArray, List.set_cons_zero, List.set_cons_succ])
      refine wpAnyH_take (i := 13) (v := ?_) rfl (by as_aux_lemma => kernel_rfl) (by as_aux_lemma => kernel_rfl) (by as_aux_lemma => kernel_rfl) (fun _ _ _ h => h) (Or.inl ⟨by first | kernel_rfl | rfl, ?_⟩) (by assumption) ?_
      rotate_left
      · intro w hSw
        (try dsimp only at hSw)
        (try go_split_ands)
        go_simp
        try with_reducible rfl
      (try simp only [Act.put, List.setIfInBounds_toArray, List.set_cons_zero, List.set_cons_succ])
      refine wpAnyH_take (i := 14) (v := ?_) rfl (by as_aux_lemma => kernel_rfl) (by as_aux_lemma => kernel_rfl) (by as_aux_lemma => kernel_rfl) (fun _ _ _ h => h) (Or.inl ⟨by first | kernel_rfl | rfl, ?_⟩) (by assumption) ?_
      rotate_left
      · intro w hSw
        (try dsimp only at hSw)
        (try go_split_ands)
        go_simp
        try with_reducible rfl
      (try simp only [Act.put, List.setIfInBounds_toArray, List.set_cons_zero, List.set_cons_succ])
      refine wpAnyH_take (i := 15) (v := ?_) rfl (by as_aux_lemma => kernel_rfl) (by as_aux_lemma => kernel_rfl) (by as_aux_lemma => kernel_rfl) (fun _ _ _ h => h) (Or.inl ⟨by first | kernel_rfl | rfl, ?_⟩) (by assumption) ?_
      rotate_left
      · intro w hSw
        (try dsimp only at hSw)
        (try go_split_ands)
        go_simp
        try with_reducible rfl
      (try simp only [Act.put, List.setIfInBounds_toArray, List.set_cons_zero, List.set_cons_succ])
      refine wpAnyH_take (i := 16) (v := ?_) rfl (by as_aux_lemma => kernel_rfl) (by as_aux_lemma => kernel_rfl) (by as_aux_lemma => kernel_rfl) (fun _ _ _ h => h) (Or.inl ⟨by first | kernel_rfl | rfl, ?_⟩) (by assumption) ?_
      rotate_left
      · intro w hSw
        (try dsimp only at hSw)
        (try go_split_ands)
        go_simp
        try with_reducible rfl
      (try simp only [Act.put, List.setIfInBounds_toArray, List.set_cons_zero, List.set_cons_succ])
      refine wpAnyH_take (i := 18) (v := ?_) rfl (by as_aux_lemma => kernel_rfl) (by as_aux_lemma => kernel_rfl) (by as_aux_lemma => kernel_rfl) (fun _ _ _ h => h) (Or.inl ⟨by first | kernel_rfl | rfl, ?_⟩) (by assumption) ?_
      rotate_left
      · intro w hSw
        (try dsimp only at hSw)
        (try go_split_ands)
        go_simp
        try with_reducible rfl
      (try simp only [Act.put, List.setIfInBounds_toArray, List.set_cons_zero, List.set_cons_succ])
      refine wpAnyH_take (i := 19) (v := ?_) rfl (by as_aux_lemma => kernel_rfl) (by as_aux_lemma => kernel_rfl) (by as_aux_lemma => kernel_rfl) (fun _ _ _ h => h) (Or.inl ⟨by first | kernel_rfl | rfl, ?_⟩) (by assumption) ?_
      rotate_left
      · intro w hSw
        (try dsimp only at hSw)
        (try go_split_ands)
        go_simp
        try with_reducible rfl
      (try simp only [Act.put, List.setIfInBounds_toArray, List.set_cons_zero, List.set_cons_succ])
      refine wpAnyH_take (i := 20) (v := ?_) rfl (by as_aux_lemma => kernel_rfl) (by as_aux_lemma => kernel_rfl) (by as_aux_lemma => kernel_rfl) (fun _ _ _ h => h) (Or.inl ⟨by first | kernel_rfl | rfl, ?_⟩) (by assumption) ?_
      rotate_left
      · intro w hSw
        (try dsimp only at hSw)
        (try go_split_ands)
        go_simp
        try with_reducible rfl
      (try simp only [Act.put, List.setIfInBounds_toArray, List.set_cons_zero, List.set_cons_succ])
      refine wpAnyH_ready (rs := [17]) (by as_aux_lemma => kernel_rfl) (by simp) ?_
      refine AllReadyH.cons rfl (fun K hK => ?_) AllReadyH.nil
      go_simp
      go_at_call 56
      refine (E1.out _ k1.own).mono ?_; rintro e u ⟨rfl, b⟩
      have BB := nx BB b
      have k1 := k1.next b
      have k2 := k2.next b
      clear b
      refine hK.out _ _ ⟨k1.cell, k2.cell⟩ (fun hHeld => ?_)
      clear hK K
      (try simp only [Act.put, List.setIfInBounds_toArray, List.set_cons_zero, List.set_cons_succ])
      refine wpAnyH_ready (rs := [21]) (by as_aux_lemma => kernel_rfl) (by simp) ?_
      refine AllReadyH.cons rfl (fun K hK => ?_) AllReadyH.nil
      go_simp
      go_at_call 56
      refine (E2.out _ k2.own).mono ?_; rintro e u ⟨rfl, b⟩
      have BB := nx BB b
      have k1 := k1.next b
      have k2 := k2.next b
      clear b
      refine hK.out _ _ ⟨k1.cell, k2.cell⟩ (fun hHeld => ?_)
      clear hK K
      (try simp only [Act.put, List.setIfInBounds_toArray, List.set_cons_zero, List.set_cons_succ])
      refine wpAnyH_take (i := 22) (v := ?_) rfl (by as_aux_lemma => kernel_rfl) (by as_aux_lemma => kernel_rfl) (by as_aux_lemma => kernel_rfl) (fun _ _ _ h => h) (Or.inl ⟨by first | kernel_rfl | rfl, ?_⟩) (by assumption) ?_
      rotate_left
      · intro w hSw
        (try dsimp only at hSw)
        (try go_split_ands)
        go_simp
        try with_reducible rfl
      (try simp only [Act.put, List.setIfInBounds_toArray, List.set_cons_zero, List.set_cons_succ])
      refine wpAnyH_take (i := 23) (v := ?_) rfl (by as_aux_lemma => kernel_rfl) (by as_aux_lemma => kernel_rfl) (by as_aux_lemma => kernel_rfl) (fun _ _ _ h => h) (Or.inl ⟨by first | kernel_rfl | rfl, ?_⟩) (by assumption) ?_
      rotate_left
      · intro w hSw
        (try dsimp only at hSw)
        (try go_split_ands)
        go_simp
        try with_reducible rfl
      (try simp only [Act.put, List.setIfInBounds_toArray, List.set_cons_zero, List.set_cons_succ])
      refine wpAnyH_take (i := 24) (v := ?_) rfl (by as_aux_lemma => kernel_rfl) (by as_aux_lemma => kernel_rfl) (by as_aux_lemma => kernel_rfl) (fun _ _ _ h => h) (Or.inl ⟨by first | kernel_rfl | rfl, ?_⟩) (by assumption) ?_
      rotate_left
      · intro w hSw
        (try dsimp only at hSw)
        (try go_split_ands)
        go_simp
        try with_reducible rfl
      (try simp only [Act.put, List.setIfInBounds_toArray, List.set_cons_zero, List.set_cons_succ])
      refine wpAnyH_take (i := 25) (v := ?_) rfl (by as_aux_lemma => kernel_rfl) (by as_aux_lemma => kernel_rfl) (by as_aux_lemma => kernel_rfl) (fun _ _ _ h => h) (Or.inl ⟨by first | kernel_rfl | rfl, ?_⟩) (by assumption) ?_
      rotate_left
      · intro w hSw
        (try dsimp only at hSw)
        (try go_split_ands)
        go_simp
        try with_reducible rfl
      (try simp only [Act.put, List.setIfInBounds_toArray, List.set_cons_zero, List.set_cons_succ])
      refine wpAnyH_take (i := 26) (v := ?_) rfl (by as_aux_lemma => kernel_rfl) (by as_aux_lemma => kernel_rfl) (by as_aux_lemma => kernel_rfl) (fun _ _ _ h => h) (Or.inl ⟨by first | kernel_rfl | rfl, ?_⟩) (by assumption) ?_
      rotate_left
      · intro w hSw
        (try dsimp only at hSw)
        (try go_split_ands)
        go_simp
        try with_reducible rfl
      (try simp only [Act.put, List.setIfInBounds_toArray, List.set_cons_zero, List.set_cons_succ])
      refine wpAnyH_take (i := 28) (v := ?_) rfl (by as_aux_lemma => kernel_rfl) (by as_aux_lemma => kernel_rfl) (by as_aux_lemma => kernel_rfl) (fun _ _ _ h => h) (Or.inl ⟨by first | kernel_rfl | rfl, ?_⟩) (by assumption) ?_
      rotate_left
      · intro w hSw
        (try dsimp only at hSw)
        (try go_split_ands)
        go_simp
        try with_reducible rfl
      (try simp only [Act.put, List.setIfInBounds_toArray, List.set_cons_zero, List.set_cons_succ])
      refine wpAnyH_take (i := 29) (v := ?_) rfl (by as_aux_lemma => kernel_rfl) (by as_aux_lemma => kernel_rfl) (by as_aux_lemma => kernel_rfl) (fun _ _ _ h => h) (Or.inl ⟨by first | kernel_rfl | rfl, ?_⟩) (by assumption) ?_
      rotate_left
      · intro w hSw
        (try dsimp only at hSw)
        (try go_split_ands)
        go_simp
        try with_reducible rfl
      (try simp only [Act.put, List.setIfInBounds_toArray, List.set_cons_zero, List.set_cons_succ])
      refine wpAnyH_ready (rs := [27]) (by as_aux_lemma => kernel_rfl) (by simp) ?_
      refine AllReadyH.cons rfl (fun K hK => ?_) AllReadyH.nil
      go_simp
      go_at_call 57
      refine (T1.out _ k1.own).mono ?_; rintro e u ⟨rfl, b⟩
      have BB := nx BB b
      have k1 := k1.next b
      have k2 := k2.next b
      clear b
      refine hK.out _ _ ⟨k1.cell, k2.cell⟩ (fun hHeld => ?_)
      clear hK K
      (try simp only [Act.put, List.setIfInBounds_toArray, List.set_cons_zero, List.set_cons_succ])
      refine wpAnyH_ready (rs := [30]) (by as_aux_lemma => kernel_rfl) (by simp) ?_
      refine AllReadyH.cons rfl (fun K hK => ?_) AllReadyH.nil
      go_simp
      go_at_call 57
      refine (T2.out _ k2.own).mono ?_; rintro e u ⟨rfl, b⟩
      have BB := nx BB b
      have k1 := k1.next b
      have k2 := k2.next b
      clear b
      refine hK.out _ _ ⟨k1.cell, k2.cell⟩ (fun hHeld => ?_)
      clear hK K
      (try simp only [Act.put, List.setIfInBounds_toArray, List.set_cons_zero, List.set_cons_succ])
      refine wpAnyH_take (i := 31) (v := ?_) rfl (by as_aux_lemma => kernel_rfl) (by as_aux_lemma => kernel_rfl) (by as_aux_lemma => kernel_rfl) (fun _ _ _ h => h) (Or.inl ⟨by first | kernel_rfl | rfl, ?_⟩) (by assumption) ?_
      rotate_left
      · intro w hSw
        (try dsimp only at hSw)
        (try go_split_ands)
        go_simp
        try with_reducible rfl
      (try simp only [Act.put, List.setIfInBounds_toArray, List.set_cons_zero, List.set_cons_succ])
      refine wpAnyH_take (i := 32) (v := ?_) rfl (by as_aux_lemma => kernel_rfl) (by as_aux_lemma => kernel_rfl) (by as_aux_lemma => kernel_rfl) (fun _ _ _ h => h) (Or.inl ⟨by first | kernel_rfl | rfl, ?_⟩) (by assumption) ?_
      rotate_left
      · intro w hSw
        (try dsimp only at hSw)
        (try go_split_ands)
        go_simp
        try with_reducible rfl
      (try simp only [Act.put, List.setIfInBounds_toArray, List.set_cons_zero, List.set_cons_succ])
      refine wpAnyH_done (by as_aux_lemma => kernel_rfl) ?_ _
      (try simp only [List.getElem_toArray, List.getElem_cons_succ, List.getElem_cons_zero, Act.put, List.setIfInBounds_toArray, List.set_cons_zero, List.set_cons_succ])
      ((try dsimp only); repeat (first | ((with_reducible (show wpList _ _ _ (List.append _ _) _ _)); simp only [List.append]) | go_values | go_skip | go_guarded | go_step | go_upon | go_back))
      go_meet
      exact BB
    | false =>
      ((try dsimp only); repeat (first | ((with_reducible (show wpList _ _ _ (List.append _ _) _ _)); simp only [List.append]) | go_values | go_skip | go_guarded | go_step | go_upon | go_back))
      go_meet
      exact BB
  case rest =>
  clear k1 k2 p1 p2
  have BB := hcut
  clear hcut HI
  ((try dsimp only); repeat (first | ((with_reducible (show wpList _ _ _ (List.append _ _) _ _)); simp only [List.append]) | go_values | go_skip | go_guarded | go_step | go_upon | go_back))
  have g := HB.out.below BB (Nat.le_refl _)
  refine (dFFind_any a cap n wc g hn).mono ?_; rintro e v14 ⟨os2, ag2, cg2, hs2, ah2, ch2, x, y, rfl, hol2, hhl2, og, oh, b⟩
  have BB := nx BB b
  obtain ⟨k3, k4, al⟩ := KS.start2 og oh
  have BB := nx BB al
  obtain ⟨v15, hwa⟩ : ∃ W, W = (v14.alloc (.cells #[.slice ag2 os2.length cg2] 26)).alloc (.cells #[.slice ah2 hs2.length ch2] 26) := ⟨_, rfl⟩
  rw [← hwa] at BB  k3 k4
  have H_v15 := Lib.hid hwa
  clear hwa al b g og oh
  have G1 := Lib.hid (fun w a b => ff_impl ag2 cg2 os2 ah2 ch2 hs2 x y w a b (by omega) (by omega))
  have G2 := Lib.hid (fun w a b => ff_spec ag2 cg2 os2 ah2 ch2 hs2 x y w a b (by omega) (by omega))
  obtain ⟨R, hR⟩ : ∃ R, R = (ffO os2 hs2 x y).getD [] := ⟨_, rfl⟩
  obtain ⟨q2, hq2⟩ : ∃ q, q = (ffO os2 hs2 x y).isSome := ⟨_, rfl⟩
  have HF := Lib.hid (ff_facts hR hq2)
  rw [← hR, ← hq2] at G1 G2
  clear hR hq2
  have q_k3 := k3.cell
  have q_k4 := k4.cell
  ((try dsimp only); repeat (first | ((with_reducible (show wpList _ _ _ (List.append _ _) _ _)); simp only [List.append]) | go_values | go_skip | go_guarded | go_step | go_upon | go_back))
  clear q_k3 q_k4
  rw [← H_v15.out]
  refine (G1.out _ k3.own k4.own).mono ?_; rintro e v16 ⟨r1, ar1, cr1, rfl, hr1, hrl, i1, b⟩
  have BB := nx BB b
  have k3 := k3.next b
  have k4 := k4.next b
  clear b G1
  obtain rfl : R = r1 := hr1
  have q_k3 := k3.cell
  have q_k4 := k4.cell
  ((try dsimp only); repeat (first | ((with_reducible (show wpList _ _ _ (List.append _ _) _ _)); simp only [List.append]) | go_values | go_skip | go_guarded | go_step | go_upon | go_back))
  clear q_k3 q_k4
  refine (G2.out _ k3.own k4.own).mono ?_; rintro e v17 ⟨r2, ar2, cr2, rfl, hr2, hrl2, i2, b⟩
  have BB := nx BB b
  have k3 := k3.next b
  have k4 := k4.next b
  have i1 := i1.below b (Nat.le_refl _)
  clear b G2
  obtain rfl : R = r2 := hr2
  have SI := Lib.hid (fun w h k => sameInts_any ar1 ar2 cr1 cr2 R R w h k (by omega) (by omega))
  rw [decide_eq_true (show R = R from rfl)] at SI
  go_upto_region 15 with fail
  go_cut [157] from 39 to 157 (fun s157 wx => s157 = .bool false ∧ Below w.heap.size w wx ∧ KS v14.heap.size ag2 cg2 os2 wx ∧ KS (v14.heap.size + 1) ah2 ch2 hs2 wx ∧ Ints wx ar2 cr2 R)
  case first =>
    cases q2 with
    | true =>
      have q_k3 := k3.cell
      have q_k4 := k4.cell
      ((try dsimp only); repeat (first | ((with_reducible (show wpList _ _ _ (List.append _ _) _ _)); simp only [List.append]) | go_values | go_skip | go_guarded | go_step | go_upon | go_back))
      clear q_k3 q_k4
      refine (SI.out _ i1 i2).mono ?_; rintro e v19 ⟨rfl, b⟩
      have BB := nx BB b
      have k3 := k3.next b
      have k4 := k4.next b
      have i1 := i1.below b (Nat.le_refl _)
      have i2 := i2.below b (Nat.le_refl _)
      clear b SI
      ((try dsimp only); repeat (first | ((with_reducible (show wpList _ _ _ (List.append _ _) _ _)); simp only [List.append]) | go_values | go_skip | go_guarded | go_step | go_upon | go_back))
      go_meet
      exact ⟨rfl, BB, k3, k4, i2⟩
    | false =>
      have q_k3 := k3.cell
      have q_k4 := k4.cell
      ((try dsimp only); repeat (first | ((with_reducible (show wpList _ _ _ (List.append _ _) _ _)); simp only [List.append]) | go_values | go_skip | go_guarded | go_step | go_upon | go_back))
      clear q_k3 q_k4
      refine (SI.out _ i1 i2).mono ?_; rintro e v20 ⟨rfl, b⟩
      have BB := nx BB b
      have k3 := k3.next b
      have k4 := k4.next b
      have i1 := i1.below b (Nat.le_refl _)
      have i2 := i2.below b (Nat.le_refl _)
      clear b SI
      ((try dsimp only); repeat (first | ((with_reducible (show wpList _ _ _ (List.append _ _) _ _)); simp only [List.append]) | go_values | go_skip | go_guarded | go_step | go_upon | go_back))
      go_meet
      exact ⟨rfl, BB, k3, k4, i2⟩
  case rest =>
  obtain ⟨rfl, BB, k3, k4, i2⟩ := hcut
  clear SI i1
  go_upto_if 158 with fail
  go_cut [] from 39 to 158 (fun wx => Below w.heap.size w wx)
  case first =>
    cases q2 with
    | true =>
      obtain ⟨A, rfl, h1, h2, h3, h4, h5, h6⟩ := HF.out rfl
      have IM := Lib.hid (fun w a b => iom_impl ah2 ch2 hs2 ar2 cr2 R w a b (by omega) (by omega))
      rw [h2, h3] at IM
      have LO := Lib.hid (fun w a => lsO_spec ag2 cg2 os2 A w a (by omega) h1)
      obtain ⟨L, hL⟩ : ∃ L, L = mems A := ⟨_, rfl⟩
      rw [← hL] at LO h4 h5
      have FI := Lib.hid (fun al cl w a b c d => fs_impl ag2 cg2 os2 ah2 ch2 hs2 al cl L ar2 cr2 R w a b c d (by omega) (by omega) (by omega) (by omega))
      rw [h4] at FI
      clear h1 h2 h3 h4 hL HF
      have q_k3 := k3.cell
      have q_k4 := k4.cell
      ((try dsimp only); repeat (first | ((with_reducible (show wpList _ _ _ (List.append _ _) _ _)); simp only [List.append]) | go_values | go_skip | go_guarded | go_step | go_upon | go_back))
      clear q_k3 q_k4
      refine (IM.out _ k4.own i2).mono ?_; rintro e v22 ⟨rfl, b⟩
      have BB := nx BB b
      have k3 := k3.next b
      have k4 := k4.next b
      have i2 := i2.below b (Nat.le_refl _)
      clear b IM
      have q_k3 := k3.cell
      have q_k4 := k4.cell
      ((try dsimp only); repeat (first | ((with_reducible (show wpList _ _ _ (List.append _ _) _ _)); simp only [List.append]) | go_values | go_skip | go_guarded | go_step | go_upon | go_back))
      clear q_k3 q_k4
      have BB := below_drew BB
      have k3 := k3.drew
      have k4 := k4.drew
      have i2 := i2.drewI
      refine wp_region_held_drew (S := (fun w' => w'.cell? ⟨v14.heap.size, 0, none⟩ = some (.slice ag2 os2.length cg2) ∧ w'.cell? ⟨v14.heap.size + 1, 0, none⟩ = some (.slice ah2 hs2.length ch2))) (by as_aux_lemma => kernel_rfl) ⟨k3.cell, k4.cell⟩ (fun hHeld => ?_)
      refine wpAnyH_take (i := 0) (v := ?_) rfl (by as_aux_lemma => kernel_rfl) (by as_aux_lemma => kernel_rfl) (by as_aux_lemma => kernel_rfl) (fun _ _ _ h => h) (Or.inl ⟨by first | kernel_rfl | rfl, ?_⟩) (by assumption) ?_
      rotate_left
      · intro w hSw
        (try dsimp only at hSw)
        (try go_split_ands)
        go_simp
        try with_reducible rfl
      (try simp only [Act.put, List.setIfInBounds_toArray, List.set_cons_zero, List.set_cons_succ])
      refine wpAnyH_take (i := 1) (v := ?_) rfl (by as_aux_lemma => kernel_rfl) (by as_aux_lemma => kernel_rfl) (by as_aux_lemma => kernel_rfl) (fun _ _ _ h => h) (Or.inl ⟨by first | kernel_rfl | rfl, ?_⟩) (by assumption) ?_
      rotate_left
      · intro w hSw
        (try dsimp only at hSw)
        (try go_split_ands)
        go_simp
        try with_reducible rfl
      (try simp only [Act.put, List.setIfInBounds_toArray, List.set_cons_zero, List.set_cons_succ])
      refine wpAnyH_take (i := 2) (v := ?_) rfl (by as_aux_lemma => kernel_rfl) (by as_aux_lemma => kernel_rfl) (by as_aux_lemma => kernel_rfl) (fun _ _ _ h => h) (Or.inl ⟨by first | kernel_rfl | rfl, ?_⟩) (by assumption) ?_
      rotate_left
      · intro w hSw
        (try dsimp only at hSw)
        (try go_split_ands)
        go_simp
        try with_reducible rfl
      (try simp only [Act.put, List.setIfInBounds_toArray, List.set_cons_zero, List.set_cons_succ])
      refine wpAnyH_take (i := 3) (v := ?_) rfl (by as_aux_lemma => kernel_rfl) (by as_aux_lemma => kernel_rfl) (by as_aux_lemma => kernel_rfl) (fun _ _ _ h => h) (Or.inl ⟨by first | kernel_rfl | rfl, ?_⟩) (by assumption) ?_
      rotate_left
      · intro w hSw
        (try dsimp only at hSw)
        (try go_split_ands)
        go_simp
        try with_reducible rfl
      (try simp only [Act.put, List.setIfInBounds_toArray, List.set_cons_zero, List.set_cons_succ])
      refine wpAnyH_take (i := 4) (v := ?_) rfl (by as_aux_lemma => kernel_rfl) (by as_aux_lemma => kernel_rfl) (by as_aux_lemma => kernel_rfl) (fun _ _ _ h => h) (Or.inl ⟨by first | kernel_rfl | rfl, ?_⟩) (by assumption) ?_
      rotate_left
      · intro w hSw
        (try dsimp only at hSw)
        (try go_split_ands)
        go_simp
        try with_reducible rfl
      (try simp only [Act.put, List.setIfInBounds_toArray, List.set_cons_zero, List.set_cons_succ])
      refine wpAnyH_take (i := 5) (v := ?_) rfl (by as_aux_lemma => kernel_rfl) (by as_aux_lemma => kernel_rfl) (by as_aux_lemma => kernel_rfl) (fun _ _ _ h => h) (Or.inl ⟨by first | kernel_rfl | rfl, ?_⟩) (by assumption) ?_
      rotate_left
      · intro w hSw
        (try dsimp only at hSw)
        (try go_split_ands)
        go_simp
        try with_reducible rfl
      (try simp only [Act.put, List.setIfInBounds_toArray, List.set_cons_zero, List.set_cons_succ])
      refine wpAnyH_take (i := 6) (v := ?_) rfl (by as_aux_lemma => kernel_rfl) (by as_aux_lemma => kernel_rfl) (by as_aux_lemma => kernel_rfl) (fun _ _ _ h => h) (Or.inl ⟨by first | kernel_rfl | rfl, ?_⟩) (by assumption) ?_
      rotate_left
      · intro w hSw
        (try dsimp only at hSw)
        (try go_split_ands)
        go_simp
        try with_reducible rfl
      (try simp only [Act.put, List.setIfInBounds_toArray, List.set_cons_zero, List.set_cons_succ])
      refine wpAnyH_take (i := 7) (v := ?_) rfl (by as_aux_lemma => kernel_rfl) (by as_aux_lemma => kernel_rfl) (by as_aux_lemma => kernel_rfl) (fun _ _ _ h => h) (Or.inl ⟨by first | kernel_rfl | rfl, ?_⟩) (by assumption) ?_
      rotate_left
      · intro w hSw
        (try dsimp only at hSw)
        (try go_split_ands)
        go_simp
        try with_reducible rfl
      (try simp only [Act.put, List.setIfInBounds_toArray, List.set_cons_zero, List.set_cons_succ])
      refine wpAnyH_take (i := 8) (v := ?_) rfl (by as_aux_lemma => kernel_rfl) (by as_aux_lemma => kernel_rfl) (by as_aux_lemma => kernel_rfl) (fun _ _ _ h => h) (Or.inl ⟨by first | kernel_rfl | rfl, ?_⟩) (by assumption) ?_
      rotate_left
      · intro w hSw
        (try dsimp only at hSw)
        (try go_split_ands)
        go_simp
        try with_reducible rfl
      (try simp only [Act.put, List.setIfInBounds_toArray, List.set_cons_zero, List.set_cons_succ])
      refine wpAnyH_take (i := 9) (v := ?_) rfl (by as_aux_lemma => kernel_rfl) (by as_aux_lemma => kernel_rfl) (by as_aux_lemma => kernel_rfl) (fun _ _ _ h => h) (Or.inl ⟨by first | kernel_rfl | rfl, ?_⟩) (by assumption) ?_
      rotate_left
      · intro w hSw
        (try dsimp only at hSw)
        (try go_split_ands)
        go_simp
        try with_reducible rfl
      (try simp only [Act.put, List.setIfInBounds_toArray, List.set_cons_zero, List.set_cons_succ])
      refine wpAnyH_take (i := 10) (v := ?_) rfl (by as_aux_lemma => kernel_rfl) (by as_aux_lemma => kernel_rfl) (by as_aux_lemma => kernel_rfl) (fun _ _ _ h => h) (Or.inl ⟨by first | kernel_rfl | rfl, ?_⟩) (by assumption) ?_
      rotate_left
      · intro w hSw
        (try dsimp only at hSw)
        (try go_split_ands)
        go_simp
        try with_reducible rfl
      (try simp only [Act.put, List.setIfInBounds_toArray, List.set_cons_zero, List.set_cons_succ])
      refine wpAnyH_take (i := 11) (v := ?_) rfl (by as_aux_lemma => kernel_rfl) (by as_aux_lemma => kernel_rfl) (by as_aux_lemma => kernel_rfl) (fun _ _ _ h => h) (Or.inl ⟨by first | kernel_rfl | rfl, ?_⟩) (by assumption) ?_
      rotate_left
      · intro w hSw
        (try dsimp only at hSw)
        (try go_split_ands)
        go_simp
        try with_reducible rfl
      (try simp only [Act.put, List.setIfInBounds_toArray, List.set_cons_zero, List.set_cons_succ])
      refine wpAnyH_take (i := 13) (v := ?_) rfl (by as_aux_lemma => kernel_rfl) (by as_aux_lemma => kernel_rfl) (by as_aux_lemma => kernel_rfl) (fun _ _ _ h => h) (Or.inl ⟨by first | kernel_rfl | rfl, ?_⟩) (by assumption) ?_
      rotate_left
      · intro w hSw
        (try dsimp only at hSw)
        (try go_split_ands)
        go_simp
        try with_reducible rfl
      (try simp only [Act.put, List.setIfInBounds_toArray, List.set_cons_zero, List.set_cons_succ])
      refine wpAnyH_ready (rs := [12]) (by as_aux_lemma => kernel_rfl) (by simp) ?_
      refine AllReadyH.cons rfl (fun K hK => ?_) AllReadyH.nil
      go_simp
      go_at_call 62
      refine (LO.out _ k3.own).mono ?_; rintro e u ⟨al2, cl2, rfl, ol2, b⟩
      have BB := nx BB b
      have k3 := k3.next b
      have k4 := k4.next b
      have i2 := i2.below b (Nat.le_refl _)
      clear b
      have p3 := ol2.ints
      clear ol2
      refine hK.out _ _ ⟨k3.cell, k4.cell⟩ (fun hHeld => ?_)
      clear hK K
      (try simp only [Act.put, List.setIfInBounds_toArray, List.set_cons_zero, List.set_cons_succ])
      refine wpAnyH_ready (rs := [14]) (by as_aux_lemma => kernel_rfl) (by simp) ?_
      refine AllReadyH.cons rfl (fun K hK => ?_) AllReadyH.nil
      go_simp
      go_at_call 51
      refine (FI.out _ _ _ k3.own k4.own p3 i2).mono ?_; rintro e u ⟨rfl, b⟩
      have BB := nx BB b
      have k3 := k3.next b
      have k4 := k4.next b
      have i2 := i2.below b (Nat.le_refl _)
      clear b
      refine hK.out _ _ ⟨k3.cell, k4.cell⟩ (fun hHeld => ?_)
      clear hK K
      (try simp only [Act.put, List.setIfInBounds_toArray, List.set_cons_zero, List.set_cons_succ])
      refine wpAnyH_take (i := 15) (v := ?_) rfl (by as_aux_lemma => kernel_rfl) (by as_aux_lemma => kernel_rfl) (by as_aux_lemma => kernel_rfl) (fun _ _ _ h => h) (Or.inl ⟨by first | kernel_rfl | rfl, ?_⟩) (by assumption) ?_
      rotate_left
      · intro w hSw
        (try dsimp only at hSw)
        (try go_split_ands)
        go_simp
        try with_reducible rfl
      (try simp only [Act.put, List.setIfInBounds_toArray, List.set_cons_zero, List.set_cons_succ])
      refine wpAnyH_take (i := 16) (v := ?_) rfl (by as_aux_lemma => kernel_rfl) (by as_aux_lemma => kernel_rfl) (by as_aux_lemma => kernel_rfl) (fun _ _ _ h => h) (Or.inl ⟨by first | kernel_rfl | rfl, ?_⟩) (by assumption) ?_
      rotate_left
      · intro w hSw
        (try dsimp only at hSw)
        (try go_split_ands)
        go_simp
        try with_reducible rfl
      (try simp only [Act.put, List.setIfInBounds_toArray, List.set_cons_zero, List.set_cons_succ])
      refine wpAnyH_done (by as_aux_lemma => kernel_rfl) ?_ _
      (try simp only [List.getElem_toArray, List.getElem_cons_succ, List.getElem_cons_zero, Act.put, List.setIfInBounds_toArray, List.set_cons_zero, List.set_cons_succ])
      ((try dsimp only); repeat (first | ((with_reducible (show wpList _ _ _ (List.append _ _) _ _)); simp only [List.append]) | go_values | go_skip | go_guarded | go_step | go_upon | go_back))
      go_meet
      exact BB
    | false =>
      ((try dsimp only); repeat (first | ((with_reducible (show wpList _ _ _ (List.append _ _) _ _)); simp only [List.append]) | go_values | go_skip | go_guarded | go_step | go_upon | go_back))
      go_meet
      exact BB
  case rest =>
  clear k3 k4 i2
  have BB := hcut
  clear hcut HF
  ((try dsimp only); repeat (first | ((with_reducible (show wpList _ _ _ (List.append _ _) _ _)); simp only [List.append]) | go_values | go_skip | go_guarded | go_step | go_upon | go_back))
  have g := HB.out.below BB (Nat.le_refl _)
  refine (dFCount_any a cap n wc g hn).mono ?_; rintro e v23 ⟨os3, ag3, cg3, hs3, ah3, ch3, z, rfl, hol3, hhl3, og, oh, b⟩
  have BB := nx BB b
  obtain ⟨k5, k6, al⟩ := KS.start2 og oh
  have BB := nx BB al
  obtain ⟨v24, hwa⟩ : ∃ W, W = (v23.alloc (.cells #[.slice ag3 os3.length cg3] 26)).alloc (.cells #[.slice ah3 hs3.length ch3] 26) := ⟨_, rfl⟩
  rw [← hwa] at BB  k5 k6
  have H_v24 := Lib.hid hwa
  clear hwa al b g og oh
  have C1 := Lib.hid (fun w a b => cfm_impl ag3 cg3 os3 ah3 ch3 hs3 z w a b (by omega) (by omega))
  have C2 := Lib.hid (fun w a b => cfm_spec ag3 cg3 os3 ah3 ch3 hs3 z w a b (by omega) (by omega))
  have OO := Lib.hid (fun w h => orderOf_spec ah3 ch3 hs3 w h (by omega))
  have hge := cf_ge os3 hs3 z
  obtain ⟨p, hp⟩ : ∃ p, p = cfV os3 hs3 z := ⟨_, rfl⟩
  obtain ⟨o, ho⟩ : ∃ o, o = ordV hs3 := ⟨_, rfl⟩
  rw [← hp] at C1 C2 hge
  rw [← ho] at OO hge
  clear hp ho
  have q_k5 := k5.cell
  have q_k6 := k6.cell
  ((try dsimp only); repeat (first | ((with_reducible (show wpList _ _ _ (List.append _ _) _ _)); simp only [List.append]) | go_values | go_skip | go_guarded | go_step | go_upon | go_back))
  clear q_k5 q_k6
  rw [← H_v24.out]
  refine (C1.out _ k5.own k6.own).mono ?_; rintro e v25 ⟨rfl, b⟩
  have BB := nx BB b
  have k5 := k5.next b
  have k6 := k6.next b
  clear b C1
  go_upto_region 23 with fail
  go_cut [207] from 39 to 207 (fun s207 wx => s207 = .bool false ∧ Below w.heap.size w wx)
  case first =>
    cases hge with
    | inl hge =>
      have hp1 : ¬ (0 ≤ p) := by omega
      have hp2 : decide (0 ≤ p) = false := by simpa using hp1
      have q_k5 := k5.cell
      have q_k6 := k6.cell
      ((try dsimp only); repeat (first | ((with_reducible (show wpList _ _ _ (List.append _ _) _ _)); simp only [List.append]) | go_values | go_skip | go_guarded | go_step | go_upon | go_back))
      clear q_k5 q_k6
      refine (C2.out _ k5.own k6.own).mono ?_; rintro e v27 ⟨rfl, b⟩
      have BB := nx BB b
      have k5 := k5.next b
      have k6 := k6.next b
      clear b C2
      ((try dsimp only); repeat (first | ((with_reducible (show wpList _ _ _ (List.append _ _) _ _)); simp only [List.append]) | go_values | go_skip | go_guarded | go_step | go_upon | go_back))
      go_meet
      exact ⟨rfl, BB⟩
    | inr hge =>
      obtain ⟨hp1, hp3⟩ := hge
      have hp2 : decide (0 ≤ p) = true := by simpa using hp1
      have hp4 : ¬ (p < o) := by omega
      have hp5 : decide (p < o) = false := by simpa using hp4
      have q_k5 := k5.cell
      have q_k6 := k6.cell
      ((try dsimp only); repeat (first | ((with_reducible (show wpList _ _ _ (List.append _ _) _ _)); simp only [List.append]) | go_values | go_skip | go_guarded | go_step | go_upon | go_back))
      clear q_k5 q_k6
      refine (C2.out _ k5.own k6.own).mono ?_; rintro e v28 ⟨rfl, b⟩
      have BB := nx BB b
      have k5 := k5.next b
      have k6 := k6.next b
      clear b C2
      have q_k5 := k5.cell
      have q_k6 := k6.cell
      ((try dsimp only); repeat (first | ((with_reducible (show wpList _ _ _ (List.append _ _) _ _)); simp only [List.append]) | go_values | go_skip | go_guarded | go_step | go_upon | go_back))
      clear q_k5 q_k6
      refine (OO.out _ k6.own).mono ?_; rintro e v29 ⟨rfl, b⟩
      have BB := nx BB b
      have k5 := k5.next b
      have k6 := k6.next b
      clear b OO
      ((try dsimp only); repeat (first | ((with_reducible (show wpList _ _ _ (List.append _ _) _ _)); simp only [List.append]) | go_values | go_skip | go_guarded | go_step | go_upon | go_back))
      go_meet
      exact ⟨rfl, BB⟩
  case rest =>
  clear k5 k6
  obtain ⟨rfl, BB⟩ := hcut
  clear hge C2 OO
  ((try dsimp only); repeat (first | ((with_reducible (show wpList _ _ _ (List.append _ _) _ _)); simp only [List.append]) | go_values | go_skip | go_guarded | go_step | go_upon | go_back))
  have g := HB.out.below BB (Nat.le_refl _)
  refine (dFRank_any a cap n wc g hn).mono ?_; rintro e v30 ⟨os4, ag4, cg4, l4, al4, cl4, rfl, hol4, hll4, og, ol, b⟩
  have BB := nx BB b
  have p4 := ol.ints
  clear ol
  have k7 := KS.start og
  have al := below_alloc v30 (.cells #[.slice ag4 os4.length cg4] 26)
  have BB := nx BB al
  have p4 := p4.below al (Nat.le_refl _)
  obtain ⟨v31, hwa⟩ : ∃ W, W = v30.alloc (.cells #[.slice ag4 os4.length cg4] 26) := ⟨_, rfl⟩
  rw [← hwa] at BB p4 k7
  have H_v31 := Lib.hid hwa
  clear hwa al b g og
  have K1 := Lib.hid (fun w a b => fk_impl ag4 cg4 os4 al4 cl4 l4 w a b (by omega) (by omega))
  have K2 := Lib.hid (fun w a b => fk_spec ag4 cg4 os4 al4 cl4 l4 w a b (by omega) (by omega))
  have hle := fk_le os4 l4
  obtain ⟨s4, hs4⟩ : ∃ s, s = fkV os4 l4 := ⟨_, rfl⟩
  rw [← hs4] at K1 K2 hle
  have hwl : IntKind.i64.wrap (IntKind.i64.wrap ((l4.length : Int) - 1) + 1) = (l4.length : Int) := by simp only [IntKind.wrap_i64]; omega
  have hwl1 : IntKind.i64.wrap ((l4.length : Int) - 1) = (l4.length : Int) - 1 := by simp only [IntKind.wrap_i64]; omega
  have hwl2 : IntKind.i64.wrap ((l4.length : Int) - 1 + 1) = (l4.length : Int) := by simp only [IntKind.wrap_i64]; omega
  have hwl0 : IntKind.i64.wrap (l4.length : Int) = (l4.length : Int) := by simp only [IntKind.wrap_i64]; omega
  have hlw : s4 ≤ IntKind.i64.wrap (l4.length : Int) := by rw [hwl0]; exact hle
  have hlwd : decide (s4 ≤ IntKind.i64.wrap (l4.length : Int)) = true := by simpa using hlw
  have hld : decide (s4 ≤ (l4.length : Int)) = true := by simpa using hle
  clear hs4
  have q_k7 := k7.cell
  ((try dsimp only); repeat (first | ((with_reducible (show wpList _ _ _ (List.append _ _) _ _)); simp only [List.append]) | go_values | go_skip | go_guarded | go_step | go_upon | go_back))
  clear q_k7
  rw [← H_v31.out]
  refine (K1.out _ k7.own p4).mono ?_; rintro e v32 ⟨rfl, b⟩
  have BB := nx BB b
  have k7 := k7.next b
  have p4 := p4.below b (Nat.le_refl _)
  clear b K1
  have q_k7 := k7.cell
  ((try dsimp only); repeat (first | ((with_reducible (show wpList _ _ _ (List.append _ _) _ _)); simp only [List.append]) | go_values | go_skip | go_guarded | go_step | go_upon | go_back))
  clear q_k7
  have g := HB.out.below BB (Nat.le_refl _)
  refine (dFImage_any a cap n v32 g hn).mono ?_; rintro e v33 ⟨os5, ag5, cg5, l5, al5, cl5, rfl, hol5, hll5, og, ol, b⟩
  have BB := nx BB b
  have k7 := k7.next b
  have p4 := p4.below b (Nat.le_refl _)
  have p5 := ol.ints
  clear ol
  have k8 := KS.start og
  have al := below_alloc v33 (.cells #[.slice ag5 os5.length cg5] 26)
  have BB := nx BB al
  have k7 := k7.next al
  have p4 := p4.below al (Nat.le_refl _)
  have p5 := p5.below al (Nat.le_refl _)
  obtain ⟨v34, hwa⟩ : ∃ W, W = v33.alloc (.cells #[.slice ag5 os5.length cg5] 26) := ⟨_, rfl⟩
  rw [← hwa] at BB k7 p4 p5 k8
  have H_v34 := Lib.hid hwa
  clear hwa al b g og
  have I1 := Lib.hid (fun w a b => iom_impl ag5 cg5 os5 al5 cl5 l5 w a b (by omega) (by omega))
  have I2 := Lib.hid (fun w a b => iom_spec ag5 cg5 os5 al5 cl5 l5 w a b (by omega) (by omega))
  obtain ⟨v5, hv5⟩ : ∃ v, v = imV os5 l5 := ⟨_, rfl⟩
  obtain ⟨b5, hb5⟩ : ∃ v, v = imB os5 l5 := ⟨_, rfl⟩
  rw [← hv5, ← hb5] at I1 I2
  clear hv5 hb5
  have q_k7 := k7.cell
  have q_k8 := k8.cell
  ((try dsimp only); repeat (first | ((with_reducible (show wpList _ _ _ (List.append _ _) _ _)); simp only [List.append]) | go_values | go_skip | go_guarded | go_step | go_upon | go_back))
  clear q_k7 q_k8
  rw [← H_v34.out]
  refine (I1.out _ k8.own p5).mono ?_; rintro e v35 ⟨rfl, b⟩
  have BB := nx BB b
  have k7 := k7.next b
  have k8 := k8.next b
  have p4 := p4.below b (Nat.le_refl _)
  have p5 := p5.below b (Nat.le_refl _)
  clear b I1
  have q_k7 := k7.cell
  have q_k8 := k8.cell
  ((try dsimp only); repeat (first | ((with_reducible (show wpList _ _ _ (List.append _ _) _ _)); simp only [List.append]) | go_values | go_skip | go_guarded | go_step | go_upon | go_back))
  clear q_k7 q_k8
  refine (I2.out _ k8.own p5).mono ?_; rintro e v36 ⟨rfl, b⟩
  have BB := nx BB b
  have k7 := k7.next b
  have k8 := k8.next b
  have p4 := p4.below b (Nat.le_refl _)
  have p5 := p5.below b (Nat.le_refl _)
  clear b I2
  clear k8 p5
  have q_k7 := k7.cell
  ((try dsimp only); repeat (first | ((with_reducible (show wpList _ _ _ (List.append _ _) _ _)); simp only [List.append]) | go_values | go_skip | go_guarded | go_step | go_upon | go_back))
  clear q_k7
  have g := HB.out.below BB (Nat.le_refl _)
  refine (dFMap_any a cap n v36 g hn).mono ?_; rintro e v37 ⟨os6, ag6, cg6, hs6, ah6, ch6, l6, al6, cl6, m6, am6, cm6, rfl, hol6, hhl6, hll6, hml6, og, oh, ol, om, b⟩
  have BB := nx BB b
  have k7 := k7.next b
  have p4 := p4.below b (Nat.le_refl _)
  have p6 := ol.ints
  clear ol
  have p7 := om.ints
  clear om
  obtain ⟨k9, ka, al⟩ := KS.start2 og oh
  have BB := nx BB al
  have k7 := k7.next al
  have p4 := p4.below al (Nat.le_refl _)
  have p6 := p6.below al (Nat.le_refl _)
  have p7 := p7.below al (Nat.le_refl _)
  obtain ⟨v38, hwa⟩ : ∃ W, W = (v37.alloc (.cells #[.slice ag6 os6.length cg6] 26)).alloc (.cells #[.slice ah6 hs6.length ch6] 26) := ⟨_, rfl⟩
  rw [← hwa] at BB k7 p4 p6 p7 k9 ka
  have H_v38 := Lib.hid hwa
  clear hwa al b g og oh
  have M1 := Lib.hid (fun w a b c d => fm_impl ag6 cg6 os6 ah6 ch6 hs6 al6 cl6 l6 am6 cm6 m6 w a b c d (by omega) (by omega) (by omega) (by omega))
  have M2 := Lib.hid (fun w a b c d => fm_spec ag6 cg6 os6 ah6 ch6 hs6 al6 cl6 l6 am6 cm6 m6 w a b c d (by omega) (by omega) (by omega) (by omega))
  obtain ⟨q6, hq6⟩ : ∃ q, q = fmB os6 hs6 l6 m6 := ⟨_, rfl⟩
  rw [← hq6] at M1 M2
  clear hq6
  have q_k7 := k7.cell
  have q_k9 := k9.cell
  have q_ka := ka.cell
  ((try dsimp only); repeat (first | ((with_reducible (show wpList _ _ _ (List.append _ _) _ _)); simp only [List.append]) | go_values | go_skip | go_guarded | go_step | go_upon | go_back))
  clear q_k7 q_k9 q_ka
  rw [← H_v38.out]
  have BB := below_drew BB
  have k7 := k7.drew
  have k9 := k9.drew
  have ka := ka.drew
  have p4 := p4.drewI
  have p6 := p6.drewI
  have p7 := p7.drewI
  refine wp_region_held_drew (S := (fun w' => w'.cell? ⟨v30.heap.size, 0, none⟩ = some (.slice ag4 os4.length cg4) ∧ w'.cell? ⟨v37.heap.size, 0, none⟩ = some (.slice ag6 os6.length cg6) ∧ w'.cell? ⟨v37.heap.size + 1, 0, none⟩ = some (.slice ah6 hs6.length ch6))) (by as_aux_lemma => kernel_rfl) ⟨k7.cell, k9.cell, ka.cell⟩ (fun hHeld => ?_)
  refine wpAnyH_take (i := 0) (v := ?_) rfl (by as_aux_lemma => kernel_rfl) (by as_aux_lemma => kernel_rfl) (by as_aux_lemma => kernel_rfl) (fun _ _ _ h => h) (Or.inl ⟨by first | kernel_rfl | rfl, ?_⟩) (by assumption) ?_
  rotate_left
  · intro w hSw
    (try dsimp only at hSw)
    (try go_split_ands)
    go_simp
    try with_reducible rfl
  (try simp only [Act.put, List.setIfInBounds_toArray, List.set_cons_zero, List.set_cons_succ])
  refine wpAnyH_take (i := 1) (v := ?_) rfl (by as_aux_lemma => kernel_rfl) (by as_aux_lemma => kernel_rfl) (by as_aux_lemma => kernel_rfl) (fun _ _ _ h => h) (Or.inl ⟨by first | kernel_rfl | rfl, ?_⟩) (by assumption) ?_
  rotate_left
  · intro w hSw
    (try dsimp only at hSw)
    (try go_split_ands)
    go_simp
    try with_reducible rfl
  (try simp only [Act.put, List.setIfInBounds_toArray, List.set_cons_zero, List.set_cons_succ])
  refine wpAnyH_take (i := 2) (v := ?_) rfl (by as_aux_lemma => kernel_rfl) (by as_aux_lemma => kernel_rfl) (by as_aux_lemma => kernel_rfl) (fun _ _ _ h => h) (Or.inl ⟨by first | kernel_rfl | rfl, ?_⟩) (by assumption) ?_
  rotate_left
  · intro w hSw
    (try dsimp only at hSw)
    (try go_split_ands)
    go_simp
    try with_reducible rfl
  (try simp only [Act.put, List.setIfInBounds_toArray, List.set_cons_zero, List.set_cons_succ])
  refine wpAnyH_ready (rs := [3]) (by as_aux_lemma => kernel_rfl) (by simp) ?_
  refine AllReadyH.cons rfl (fun K hK => ?_) AllReadyH.nil
  go_simp
  go_at_call 71
  refine (K2.out _ k7.own p4).mono ?_; rintro e u ⟨rfl, b⟩
  have BB := nx BB b
  have k7 := k7.next b
  have k9 := k9.next b
  have ka := ka.next b
  have p4 := p4.below b (Nat.le_refl _)
  have p6 := p6.below b (Nat.le_refl _)
  have p7 := p7.below b (Nat.le_refl _)
  clear b
  refine hK.out _ _ ⟨k7.cell, k9.cell, ka.cell⟩ (fun hHeld => ?_)
  clear hK K
  (try simp only [Act.put, List.setIfInBounds_toArray, List.set_cons_zero, List.set_cons_succ])
  refine wpAnyH_take (i := 4) (v := ?_) rfl (by as_aux_lemma => kernel_rfl) (by as_aux_lemma => kernel_rfl) (by as_aux_lemma => kernel_rfl) (fun _ _ _ h => h) (Or.inl ⟨by first | kernel_rfl | rfl, ?_⟩) (by assumption) ?_
  rotate_left
  · intro w hSw
    (try dsimp only at hSw)
    (try go_split_ands)
    go_simp
    try with_reducible rfl
  (try simp only [Act.put, List.setIfInBounds_toArray, List.set_cons_zero, List.set_cons_succ])
  refine wpAnyH_take (i := 5) (v := ?_) rfl (by as_aux_lemma => kernel_rfl) (by as_aux_lemma => kernel_rfl) (by as_aux_lemma => kernel_rfl) (fun _ _ _ h => h) (Or.inl ⟨by first | kernel_rfl | rfl, ?_⟩) (by assumption) ?_
  rotate_left
  · intro w hSw
    (try dsimp only at hSw)
    (try go_split_ands)
    go_simp
    try with_reducible rfl
  (try simp only [Act.put, List.setIfInBounds_toArray, List.set_cons_zero, List.set_cons_succ])
  refine wpAnyH_take (i := 6) (v := ?_) rfl (by as_aux_lemma => kernel_rfl) (by as_aux_lemma => kernel_rfl) (by as_aux_lemma => kernel_rfl) (fun _ _ _ h => h) (Or.inl ⟨by first | kernel_rfl | rfl, ?_⟩) (by assumption) ?_
  rotate_left
  · intro w hSw
    (try dsimp only at hSw)
    (try go_split_ands)
    go_simp
    try with_reducible rfl
  (try simp only [Act.put, List.setIfInBounds_toArray, List.set_cons_zero, List.set_cons_succ])
  refine wpAnyH_take (i := 7) (v := ?_) rfl (by as_aux_lemma => kernel_rfl) (by as_aux_lemma => kernel_rfl) (by as_aux_lemma => kernel_rfl) (fun _ _ _ h => h) (Or.inl ⟨by first | kernel_rfl | rfl, ?_⟩) (by assumption) ?_
  rotate_left
  · intro w hSw
    (try dsimp only at hSw)
    (try go_split_ands)
    go_simp
    try with_reducible rfl
  (try simp only [Act.put, List.setIfInBounds_toArray, List.set_cons_zero, List.set_cons_succ])
  refine wpAnyH_take (i := 8) (v := ?_) rfl (by as_aux_lemma => kernel_rfl) (by as_aux_lemma => kernel_rfl) (by as_aux_lemma => kernel_rfl) (fun _ _ _ h => h) (Or.inl ⟨by first | kernel_rfl | rfl, ?_⟩) (by assumption) ?_
  rotate_left
  · intro w hSw
    (try dsimp only at hSw)
    (try go_split_ands)
    go_simp
    try with_reducible rfl
  (try simp only [Act.put, List.setIfInBounds_toArray, List.set_cons_zero, List.set_cons_succ])
  refine wpAnyH_take (i := 9) (v := ?_) rfl (by as_aux_lemma => kernel_rfl) (by as_aux_lemma => kernel_rfl) (by as_aux_lemma => kernel_rfl) (fun _ _ _ h => h) (Or.inl ⟨by first | kernel_rfl | rfl, ?_⟩) (by assumption) ?_
  rotate_left
  · intro w hSw
    (try dsimp only at hSw)
    (try go_split_ands)
    go_simp
    try with_reducible rfl
  (try simp only [Act.put, List.setIfInBounds_toArray, List.set_cons_zero, List.set_cons_succ])
  refine wpAnyH_take (i := 10) (v := ?_) rfl (by as_aux_lemma => kernel_rfl) (by as_aux_lemma => kernel_rfl) (by as_aux_lemma => kernel_rfl) (fun _ _ _ h => h) (Or.inl ⟨by first | kernel_rfl | rfl, ?_⟩) (by assumption) ?_
  rotate_left
  · intro w hSw
    (try dsimp only at hSw)
    (try go_split_ands)
    go_simp
    try with_reducible rfl
  (try simp only [Act.put, List.setIfInBounds_toArray, List.set_cons_zero, List.set_cons_succ])
  refine wpAnyH_take (i := 11) (v := ?_) rfl (by as_aux_lemma => kernel_rfl) (by as_aux_lemma => kernel_rfl) (by as_aux_lemma => kernel_rfl) (fun _ _ _ h => h) (Or.inl ⟨by first | kernel_rfl | rfl, ?_⟩) (by assumption) ?_
  rotate_left
  · intro w hSw
    (try dsimp only at hSw)
    (try go_split_ands)
    go_simp
    try with_reducible rfl
  (try simp only [Act.put, List.setIfInBounds_toArray, List.set_cons_zero, List.set_cons_succ])
  refine wpAnyH_take (i := 12) (v := ?_) rfl (by as_aux_lemma => kernel_rfl) (by as_aux_lemma => kernel_rfl) (by as_aux_lemma => kernel_rfl) (fun _ _ _ h => h) (Or.inl ⟨by first | kernel_rfl | rfl, ?_⟩) (by assumption) ?_
  rotate_left
  · intro w hSw
    (try dsimp only at hSw)
    (try go_split_ands)
    go_simp
    try with_reducible rfl
  (try simp only [Act.put, List.setIfInBounds_toArray, List.set_cons_zero, List.set_cons_succ])
  refine wpAnyH_take (i := 13) (v := ?_) rfl (by as_aux_lemma => kernel_rfl) (by as_aux_lemma => kernel_rfl) (by as_aux_lemma => kernel_rfl) (fun _ _ _ h => h) (Or.inl ⟨by first | kernel_rfl | rfl, ?_⟩) (by assumption) ?_
  rotate_left
  · intro w hSw
    (try dsimp only at hSw)
    (try go_split_ands)
    go_simp
    try with_reducible rfl
  (try simp only [Act.put, List.setIfInBounds_toArray, List.set_cons_zero, List.set_cons_succ])
  refine wpAnyH_take (i := 14) (v := ?_) rfl (by as_aux_lemma => kernel_rfl) (by as_aux_lemma => kernel_rfl) (by as_aux_lemma => kernel_rfl) (fun _ _ _ h => h) (Or.inl ⟨by first | kernel_rfl | rfl, ?_⟩) (by assumption) ?_
  rotate_left
  · intro w hSw
    (try dsimp only at hSw)
    (try go_split_ands)
    go_simp
    try with_reducible rfl
  (try simp only [Act.put, List.setIfInBounds_toArray, List.set_cons_zero, List.set_cons_succ])
  refine wpAnyH_take (i := 15) (v := ?_) rfl (by as_aux_lemma => kernel_rfl) (by as_aux_lemma => kernel_rfl) (by as_aux_lemma => kernel_rfl) (fun _ _ _ h => h) (Or.inl ⟨by first | kernel_rfl | rfl, ?_⟩) (by assumption) ?_
  rotate_left
  · intro w hSw
    (try dsimp only at hSw)
    (try go_split_ands)
    go_simp
    try with_reducible rfl
  (try simp only [Act.put, List.setIfInBounds_toArray, List.set_cons_zero, List.set_cons_succ])
  refine wpAnyH_take (i := 16) (v := ?_) rfl (by as_aux_lemma => kernel_rfl) (by as_aux_lemma => kernel_rfl) (by as_aux_lemma => kernel_rfl) (fun _ _ _ h => h) (Or.inl ⟨by first | kernel_rfl | rfl, ?_⟩) (by assumption) ?_
  rotate_left
  · intro w hSw
    (try dsimp only at hSw)
    (try go_split_ands)
    go_simp
    try with_reducible rfl
  (try simp only [Act.put, List.setIfInBounds_toArray, List.set_cons_zero, List.set_cons_succ])
  refine wpAnyH_take (i := 17) (v := ?_) rfl (by as_aux_lemma => kernel_rfl) (by as_aux_lemma => kernel_rfl) (by as_aux_lemma => kernel_rfl) (fun _ _ _ h => h) (Or.inl ⟨by first | kernel_rfl | rfl, ?_⟩) (by assumption) ?_
  rotate_left
  · intro w hSw
    (try dsimp only at hSw)
    (try go_split_ands)
    go_simp
    try with_reducible rfl
  (try simp only [Act.put, List.setIfInBounds_toArray, List.set_cons_zero, List.set_cons_succ])
  refine wpAnyH_take (i := 18) (v := ?_) rfl (by as_aux_lemma => kernel_rfl) (by as_aux_lemma => kernel_rfl) (by as_aux_lemma => kernel_rfl) (fun _ _ _ h => h) (Or.inl ⟨by first | kernel_rfl | rfl, ?_⟩) (by assumption) ?_
  rotate_left
  · intro w hSw
    (try dsimp only at hSw)
    (try go_split_ands)
    go_simp
    try with_reducible rfl
  (try simp only [Act.put, List.setIfInBounds_toArray, List.set_cons_zero, List.set_cons_succ])
  refine wpAnyH_take (i := 19) (v := ?_) rfl (by as_aux_lemma => kernel_rfl) (by as_aux_lemma => kernel_rfl) (by as_aux_lemma => kernel_rfl) (fun _ _ _ h => h) (Or.inl ⟨by first | kernel_rfl | rfl, ?_⟩) (by assumption) ?_
  rotate_left
  · intro w hSw
    (try dsimp only at hSw)
    (try go_split_ands)
    go_simp
    try with_reducible rfl
  (try simp only [Act.put, List.setIfInBounds_toArray, List.set_cons_zero, List.set_cons_succ])
  refine wpAnyH_take (i := 20) (v := ?_) rfl (by as_aux_lemma => kernel_rfl) (by as_aux_lemma => kernel_rfl) (by as_aux_lemma => kernel_rfl) (fun _ _ _ h => h) (Or.inl ⟨by first | kernel_rfl | rfl, ?_⟩) (by assumption) ?_
  rotate_left
  · intro w hSw
    (try dsimp only at hSw)
    (try go_split_ands)
    go_simp
    try with_reducible rfl
  (try simp only [Act.put, List.setIfInBounds_toArray, List.set_cons_zero, List.set_cons_succ])
  refine wpAnyH_take (i := 21) (v := ?_) rfl (by as_aux_lemma => kernel_rfl) (by as_aux_lemma => kernel_rfl) (by as_aux_lemma => kernel_rfl) (fun _ _ _ h => h) (Or.inl ⟨by first | kernel_rfl | rfl, ?_⟩) (by assumption) ?_
  rotate_left
  · intro w hSw
    (try dsimp only at hSw)
    (try go_split_ands)
    go_simp
    try with_reducible rfl
  (try simp only [Act.put, List.setIfInBounds_toArray, List.set_cons_zero, List.set_cons_succ])
  refine wpAnyH_take (i := 22) (v := ?_) rfl (by as_aux_lemma => kernel_rfl) (by as_aux_lemma => kernel_rfl) (by as_aux_lemma => kernel_rfl) (fun _ _ _ h => h) (Or.inl ⟨by first | kernel_rfl | rfl, ?_⟩) (by assumption) ?_
  rotate_left
  · intro w hSw
    (try dsimp only at hSw)
    (try go_split_ands)
    go_simp
    try with_reducible rfl
  (try simp only [Act.put, List.setIfInBounds_toArray, List.set_cons_zero, List.set_cons_succ])
  refine wpAnyH_take (i := 23) (v := ?_) rfl (by as_aux_lemma => kernel_rfl) (by as_aux_lemma => kernel_rfl) (by as_aux_lemma => kernel_rfl) (fun _ _ _ h => h) (Or.inl ⟨by first | kernel_rfl | rfl, ?_⟩) (by assumption) ?_
  rotate_left
  · intro w hSw
    (try dsimp only at hSw)
    (try go_split_ands)
    go_simp
    try with_reducible rfl
  (try simp only [Act.put, List.setIfInBounds_toArray, List.set_cons_zero, List.set_cons_succ])
  refine wpAnyH_take (i := 24) (v := ?_) rfl (by as_aux_lemma => kernel_rfl) (by as_aux_lemma => kernel_rfl) (by as_aux_lemma => kernel_rfl) (fun _ _ _ h => h) (Or.inl ⟨by first | kernel_rfl | rfl, ?_⟩) (by assumption) ?_
  rotate_left
  · intro w hSw
    (try dsimp only at hSw)
    (try go_split_ands)
    go_simp
    try with_reducible rfl
  (try simp only [Act.put, List.setIfInBounds_toArray, List.set_cons_zero, List.set_cons_succ])
  refine wpAnyH_take (i := 25) (v := ?_) rfl (by as_aux_lemma => kernel_rfl) (by as_aux_lemma => kernel_rfl) (by as_aux_lemma => kernel_rfl) (fun _ _ _ h => h) (Or.inl ⟨by first | kernel_rfl | rfl, ?_⟩) (by assumption) ?_
  rotate_left
  · intro w hSw
    (try dsimp only at hSw)
    (try go_split_ands)
    go_simp
    try with_reducible rfl
  (try simp only [Act.put, List.setIfInBounds_toArray, List.set_cons_zero, List.set_cons_succ])
  refine wpAnyH_take (i := 26) (v := ?_) rfl (by as_aux_lemma => kernel_rfl) (by as_aux_lemma => kernel_rfl) (by as_aux_lemma => kernel_rfl) (fun _ _ _ h => h) (Or.inl ⟨by first | kernel_rfl | rfl, ?_⟩) (by assumption) ?_
  rotate_left
  · intro w hSw
    (try dsimp only at hSw)
    (try go_split_ands)
    go_simp
    try with_reducible rfl
  (try simp only [Act.put, List.setIfInBounds_toArray, List.set_cons_zero, List.set_cons_succ])
  refine wpAnyH_take (i := 27) (v := ?_) rfl (by as_aux_lemma => kernel_rfl) (by as_aux_lemma => kernel_rfl) (by as_aux_lemma => kernel_rfl) (fun _ _ _ h => h) (Or.inl ⟨by first | kernel_rfl | rfl, ?_⟩) (by assumption) ?_
  rotate_left
  · intro w hSw
    (try dsimp only at hSw)
    (try go_split_ands)
    go_simp
    try with_reducible rfl
  (try simp only [Act.put, List.setIfInBounds_toArray, List.set_cons_zero, List.set_cons_succ])
  refine wpAnyH_take (i := 29) (v := ?_) rfl (by as_aux_lemma => kernel_rfl) (by as_aux_lemma => kernel_rfl) (by as_aux_lemma => kernel_rfl) (fun _ _ _ h => h) (Or.inl ⟨by first | kernel_rfl | rfl, ?_⟩) (by assumption) ?_
  rotate_left
  · intro w hSw
    (try dsimp only at hSw)
    (try go_split_ands)
    go_simp
    try with_reducible rfl
  (try simp only [Act.put, List.setIfInBounds_toArray, List.set_cons_zero, List.set_cons_succ])
  refine wpAnyH_take (i := 30) (v := ?_) rfl (by as_aux_lemma => kernel_rfl) (by as_aux_lemma => kernel_rfl) (by as_aux_lemma => kernel_rfl) (fun _ _ _ h => h) (Or.inl ⟨by first | kernel_rfl | rfl, ?_⟩) (by assumption) ?_
  rotate_left
  · intro w hSw
    (try dsimp only at hSw)
    (try go_split_ands)
    go_simp
    try with_reducible rfl
  (try simp only [Act.put, List.setIfInBounds_toArray, List.set_cons_zero, List.set_cons_succ])
  refine wpAnyH_take (i := 31) (v := ?_) rfl (by as_aux_lemma => kernel_rfl) (by as_aux_lemma => kernel_rfl) (by as_aux_lemma => kernel_rfl) (fun _ _ _ h => h) (Or.inl ⟨by first | kernel_rfl | rfl, ?_⟩) (by assumption) ?_
  rotate_left
  · intro w hSw
    (try dsimp only at hSw)
    (try go_split_ands)
    go_simp
    try with_reducible rfl
  (try simp only [Act.put, List.setIfInBounds_toArray, List.set_cons_zero, List.set_cons_succ])
  refine wpAnyH_take (i := 32) (v := ?_) rfl (by as_aux_lemma => kernel_rfl) (by as_aux_lemma => kernel_rfl) (by as_aux_lemma => kernel_rfl) (fun _ _ _ h => h) (Or.inl ⟨by first | kernel_rfl | rfl, ?_⟩) (by assumption) ?_
  rotate_left
  · intro w hSw
    (try dsimp only at hSw)
    (try go_split_ands)
    go_simp
    try with_reducible rfl
  (try simp only [Act.put, List.setIfInBounds_toArray, List.set_cons_zero, List.set_cons_succ])
  refine wpAnyH_ready (rs := [28]) (by as_aux_lemma => kernel_rfl) (by simp) ?_
  refine AllReadyH.cons rfl (fun K hK => ?_) AllReadyH.nil
  go_simp
  go_at_call 53
  refine (M1.out _ k9.own ka.own p6 p7).mono ?_; rintro e u ⟨rfl, b⟩
  have BB := nx BB b
  have k7 := k7.next b
  have k9 := k9.next b
  have ka := ka.next b
  have p4 := p4.below b (Nat.le_refl _)
  have p6 := p6.below b (Nat.le_refl _)
  have p7 := p7.below b (Nat.le_refl _)
  clear b
  refine hK.out _ _ ⟨k7.cell, k9.cell, ka.cell⟩ (fun hHeld => ?_)
  clear hK K
  (try simp only [Act.put, List.setIfInBounds_toArray, List.set_cons_zero, List.set_cons_succ])
  refine wpAnyH_ready (rs := [33]) (by as_aux_lemma => kernel_rfl) (by simp) ?_
  refine AllReadyH.cons rfl (fun K hK => ?_) AllReadyH.nil
  go_simp
  go_at_call 72
  refine (M2.out _ k9.own ka.own p6 p7).mono ?_; rintro e u ⟨rfl, b⟩
  have BB := nx BB b
  have k7 := k7.next b
  have k9 := k9.next b
  have ka := ka.next b
  have p4 := p4.below b (Nat.le_refl _)
  have p6 := p6.below b (Nat.le_refl _)
  have p7 := p7.below b (Nat.le_refl _)
  clear b
  refine hK.out _ _ ⟨k7.cell, k9.cell, ka.cell⟩ (fun hHeld => ?_)
  clear hK K
  (try simp only [Act.put, List.setIfInBounds_toArray, List.set_cons_zero, List.set_cons_succ])
  refine wpAnyH_take (i := 34) (v := ?_) rfl (by as_aux_lemma => kernel_rfl) (by as_aux_lemma => kernel_rfl) (by as_aux_lemma => kernel_rfl) (fun _ _ _ h => h) (Or.inl ⟨by first | kernel_rfl | rfl, ?_⟩) (by assumption) ?_
  rotate_left
  · intro w hSw
    (try dsimp only at hSw)
    (try go_split_ands)
    go_simp
    try with_reducible rfl
  (try simp only [Act.put, List.setIfInBounds_toArray, List.set_cons_zero, List.set_cons_succ])
  refine wpAnyH_take (i := 35) (v := ?_) rfl (by as_aux_lemma => kernel_rfl) (by as_aux_lemma => kernel_rfl) (by as_aux_lemma => kernel_rfl) (fun _ _ _ h => h) (Or.inl ⟨by first | kernel_rfl | rfl, ?_⟩) (by assumption) ?_
  rotate_left
  · intro w hSw
    (try dsimp only at hSw)
    (try go_split_ands)
    go_simp
    try with_reducible rfl
  (try simp only [Act.put, List.setIfInBounds_toArray, List.set_cons_zero, List.set_cons_succ])
  refine wpAnyH_take (i := 36) (v := ?_) rfl (by as_aux_lemma => kernel_rfl) (by as_aux_lemma => kernel_rfl) (by as_aux_lemma => kernel_rfl) (fun _ _ _ h => h) (Or.inl ⟨by first | kernel_rfl | rfl, ?_⟩) (by assumption) ?_
  rotate_left
  · intro w hSw
    (try dsimp only at hSw)
    (try go_split_ands)
    go_simp
    try with_reducible rfl
  (try simp only [Act.put, List.setIfInBounds_toArray, List.set_cons_zero, List.set_cons_succ])
  refine wpAnyH_done (by as_aux_lemma => kernel_rfl) ?_ _
  (try simp only [List.getElem_toArray, List.getElem_cons_succ, List.getElem_cons_zero, Act.put, List.setIfInBounds_toArray, List.set_cons_zero, List.set_cons_succ])
  ((try dsimp only); repeat (first | ((with_reducible (show wpList _ _ _ (List.append _ _) _ _)); simp only [List.append]) | go_values | go_skip | go_guarded | go_step | go_upon | go_back))
  go_ret
  exact ⟨ret_bool (by simp), BB⟩

end Go.Proofs.Ytokpgbpdmfibjaa
