/-
The closure of the program's FindFreimanIso. Conditions: groups, lists of elements, at most 5 numbers.
-/
import Derived.Test.YtokpgbpdmfibjaaFfl
import Derived.Test.YtokpgbpdmfibjaaCmi
import Derived.Test.YtokpgbpdmfibjaaCsf
import Derived.Deep.AppendLies
import Derived.RegionTactic
namespace Go.Proofs.Ytokpgbpdmfibjaa
open Go.RowKit Go.ChangeShapes
set_option linter.unusedVariables false
set_option linter.unusedSimpArgs false

/-- The law of the append of a number, with what it says of the older blocks. -/
theorem wpList_appG {ops : Array Oper} {rest : List Oper} {o : Oper} {a : Act} {Q : Exit → Act → World → Prop} {w0 : World} (hg : o.guard = none) (s x : Operand)
    (hop : o.op = .call { callee := .builtin .append, args := #[s, x], argTypes := #[24, 24] })
    (B : Nat) (ad : Option Addr) (c : Nat) (xs : List Int) (y : Int) (hs : a.eval s = .slice ad xs.length c) (hx : a.eval x = .slice (some ⟨w0.heap.size, 0, none⟩) 1 1)
    (hown : OwnI w0 B ad c xs) (hy : (Lit.int .i64 y).wf = true) (hlen : xs.length ≤ 2000000) (hB : B ≤ w0.heap.size)
    (hK : ∀ g c' w', OwnI w' B (some ⟨g, 0, none⟩) c' (xs ++ [y]) → (∀ W, Below B W w0 → Below B W w') → w0.grownBy w' (Value.slice ad xs.length c).ownBlock → ((Value.slice ad xs.length c).ownBlock = some g ∨ w0.heap.size ≤ g) → wpList Try.prog ops Q rest (a.put o.dst (.slice (some ⟨g, 0, none⟩) (xs.length + 1) c')) w') :
    wpList Try.prog ops Q (o :: rest) a (w0.alloc (.cells #[.int .i64 y] 3)) := by
  obtain ⟨i0, hi, hz0, hz1, hz2⟩ := info_parts infoI
  refine wpList_append_lies _ hg s x 24 hop B 3 i0 (.int .i64 0) 1 8 Try.underlying24 hi hz0 hz1 hz2 rfl (by decide) _ _ _ hs (hown.2.alloc _) ⟨w0.heap.size, 0, none⟩ 1 1 [.int .i64 y] hx rfl (cell_one_new _ _ _) ?_ (by decide) ?_ ?_ ?_ _ rfl ?_
  · intro u hu; simp at hu; subst hu; rfl
  · unfold maxLen; omega
  · omega
  · simp; omega
  · intro g cap w1 hown' hgrow hat hlt
    refine hK g cap w1 ⟨?_, ?_⟩ (fun W hW => (hW.alloc hB _).grown hgrow (by simp; omega) hown.ownBlock) (grown_trans (World.grownBy_alloc _ _ _) hgrow) ?_
    · intro n hn
      rcases List.mem_append.1 hn with h | h
      · exact hown.1 n h
      · simp at h; subst h; exact hy
    · have e : (xs ++ [y]).map (Value.int .i64) = xs.map (Value.int .i64) ++ [.int .i64 y] := by simp
      rw [e, show (xs ++ [y]).length = xs.length + 1 by simp]
      exact hown'
    · rcases hat with h | h
      · exact .inl h
      · simp at h; exact .inr (by omega)
theorem minus_or {u x : Nat} (hu : u < 16777216) (hx : x < 24) (h : u.testBit x = false) : minusS (u ||| 2 ^ x) (2 ^ x) = u := by
  have h2 : (2 : Nat) ^ x ≤ 2 ^ 24 := Nat.pow_le_pow_right (by decide) (by omega)
  have e : (2 : Nat) ^ 24 = 16777216 := by decide
  have h3 : u ||| 2 ^ x < 2 ^ 25 := Nat.or_lt_two_pow (by omega) (by omega)
  have e2 : (2 : Nat) ^ 25 = 33554432 := by decide
  apply Nat.eq_of_testBit_eq
  intro i
  rw [minusS_bit _ _ _ (by omega) (by omega), Nat.testBit_or, Nat.testBit_two_pow]
  by_cases hi : x = i
  · subst hi; simp [h]
  · simp [hi]
/-- Dropping the last number. -/
theorem OwnI.pop {w : World} {B : Nat} {a : Option Addr} {c : Nat} {xs : List Int} {y : Int} (h : OwnI w B a c (xs ++ [y])) : OwnI w B a c xs := by
  obtain ⟨h0, h1, h2⟩ := h
  refine ⟨fun n hn => h0 n (by simp [hn]), by simp, ?_⟩
  have hl : (xs ++ [y]).length = xs.length + 1 := by simp
  rcases h2 with ⟨_, hz⟩ | ⟨g, cap, cur, hv, hg, hh, hn, hm, hs, ht⟩
  · omega
  · rw [hl] at hv hn ht
    simp only [Value.slice.injEq, true_and] at hv
    obtain ⟨rfl, rfl⟩ := hv
    refine .inr ⟨g, c, cur, rfl, hg, hh, by omega, hm, hs, ?_⟩
    have h3 : (cur.toList.take ((xs.length + 1) * 1)).take (xs.length * 1) = ((xs ++ [y]).map (Value.int .i64)).take (xs.length * 1) := by rw [ht]
    rw [List.take_take, Nat.min_eq_left (by omega)] at h3
    rw [h3, List.map_append, Nat.mul_one, List.take_left' (by simp)]
/-- What the closure has captured and writes: the boxes of m, of used and its own. -/
structure EnvF (w : World) (B bm bl bg bh ba bu bt : Nat) (m : List Int) (am : Option Addr) (cm u : Nat) : Prop where
  hm : w.heap[bm]? = some (.cells #[.slice am m.length cm] 24 (0, 0))
  hu : w.heap[bu]? = some (.cells #[.int .i64 (u : Int)] 3 (0, 0))
  ht : w.heap[bt]? = some (.cells #[.func (.func 123) #[] #[.pointer (some ⟨bm, 0, none⟩), .pointer (some ⟨bl, 0, none⟩), .pointer (some ⟨bg, 0, none⟩), .pointer (some ⟨bh, 0, none⟩), .pointer (some ⟨ba, 0, none⟩), .pointer (some ⟨bu, 0, none⟩), .pointer (some ⟨bt, 0, none⟩)]] 98 (0, 0))
  om : OwnI w B am cm m
  d : (bm ≠ bu ∧ bm ≠ bt ∧ bu ≠ bt) ∧ B ≤ bm ∧ B ≤ bu
  eo : ∀ b, (Value.slice am m.length cm).ownBlock = some b → b ≠ bm ∧ b ≠ bu ∧ b ≠ bt
theorem EnvF.below {w w1 : World} {B bm bl bg bh ba bu bt : Nat} {m : List Int} {am : Option Addr} {cm u : Nat} (h : EnvF w B bm bl bg bh ba bu bt m am cm u) (hb : Below w.heap.size w w1) : EnvF w1 B bm bl bg bh ba bu bt m am cm u :=
  ⟨one_below h.hm hb (Nat.le_refl _), one_below h.hu hb (Nat.le_refl _), one_below h.ht hb (Nat.le_refl _), h.om.below hb (Nat.le_refl _), h.d, h.eo⟩
theorem EnvF.drew {w : World} {B bm bl bg bh ba bu bt : Nat} {m : List Int} {am : Option Addr} {cm u : Nat} (h : EnvF w B bm bl bg bh ba bu bt m am cm u) : EnvF w.drew B bm bl bg bh ba bu bt m am cm u :=
  ⟨h.hm, h.hu, h.ht, h.om, h.d, h.eo⟩
theorem EnvF.setU {w : World} {B bm bl bg bh ba bu bt : Nat} {m : List Int} {am : Option Addr} {cm u : Nat} (h : EnvF w B bm bl bg bh ba bu bt m am cm u) (k : Nat) : EnvF (w.setCell ⟨bu, 0, none⟩ (.int .i64 (k : Int))) B bm bl bg bh ba bu bt m am cm k := by
  have hg := grown_setAtN (w := w) bu 0 (.int .i64 (k : Int))
  obtain ⟨⟨d1, d2, d3⟩, d4, d5⟩ := h.d
  refine ⟨one_grown h.hm hg (by simpa using d1), one_setN h.hu, one_grown h.ht hg (by simpa using fun e => d3 e.symm), ⟨h.om.1, h.om.2.kept hg ?_⟩, h.d, h.eo⟩
  cases hc : (Value.slice am m.length cm).ownBlock with
  | none => exact .inl rfl
  | some b => exact .inr (fun e => (h.eo b hc).2.1 (by first | simpa using e | simpa using e.symm))
/-- Behind an append and the store of the new slice. -/
theorem EnvF.app {w w1 : World} {B bm bl bg bh ba bu bt : Nat} {m : List Int} {am : Option Addr} {cm u : Nat} (h : EnvF w B bm bl bg bh ba bu bt m am cm u) {y : Int} {g c' : Nat} (ho : OwnI w1 B (some ⟨g, 0, none⟩) c' (m ++ [y])) (hg : w.grownBy w1 (Value.slice am m.length cm).ownBlock) (hat : (Value.slice am m.length cm).ownBlock = some g ∨ w.heap.size ≤ g) :
    w1.heap[bm]? = some (.cells #[.slice am m.length cm] 24 (0, 0)) ∧ EnvF (w1.setCell ⟨bm, 0, none⟩ (.slice (some ⟨g, 0, none⟩) (m.length + 1) c')) B bm bl bg bh ba bu bt (m ++ [y]) (some ⟨g, 0, none⟩) c' u := by
  obtain ⟨⟨d1, d2, d3⟩, d4, d5⟩ := h.d
  have hne : ∀ b, (b = bm ∨ b = bu ∨ b = bt) → some b ≠ (Value.slice am m.length cm).ownBlock := fun b hb e => by
    obtain ⟨e1, e2, e3⟩ := h.eo b e.symm
    rcases hb with hb | hb | hb <;> simp_all
  have km := one_grown h.hm hg (hne bm (by simp))
  have ku := one_grown h.hu hg (hne bu (by simp))
  have kt := one_grown h.ht hg (hne bt (by simp))
  have hs := grown_setAtN (w := w1) bm 0 (.slice (some ⟨g, 0, none⟩) (m.length + 1) c')
  have hgo : g ≠ bm ∧ g ≠ bu ∧ g ≠ bt := by
    rcases hat with h2 | h2
    · exact h.eo g h2
    · have l1 := lt_of_block h.hm
      have l2 := lt_of_block h.hu
      have l3 := lt_of_block h.ht
      exact ⟨by omega, by omega, by omega⟩
  have hlen : (m ++ [y]).length = m.length + 1 := by simp
  refine ⟨km, ⟨by rw [hlen]; exact one_setN km, one_grown ku hs (by simpa using fun e => d1 e.symm), one_grown kt hs (by simpa using fun e => d2 e.symm), ⟨ho.1, ho.2.kept hs (.inr (by first | (simpa [Value.ownBlock] using fun e => hgo.1 e) | (simpa [Value.ownBlock] using fun e => hgo.1 e.symm) | (intro e; exact hgo.1 (by simpa [Value.ownBlock] using e))))⟩, h.d, fun b hb => ?_⟩⟩
  have e : g = b := by simpa [Value.ownBlock] using hb
  subst e
  exact hgo
/-- Behind the store of the shorter slice. -/
theorem EnvF.popS {w : World} {B bm bl bg bh ba bu bt : Nat} {m : List Int} {y : Int} {am : Option Addr} {cm u : Nat} (h : EnvF w B bm bl bg bh ba bu bt (m ++ [y]) am cm u) : EnvF (w.setCell ⟨bm, 0, none⟩ (.slice am m.length cm)) B bm bl bg bh ba bu bt m am cm u := by
  have hs := grown_setAtN (w := w) bm 0 (.slice am m.length cm)
  obtain ⟨⟨d1, d2, d3⟩, d4, d5⟩ := h.d
  have heo : ∀ b, (Value.slice am m.length cm).ownBlock = some b → b ≠ bm ∧ b ≠ bu ∧ b ≠ bt := fun b hb => h.eo b (by
    cases am with
    | none => simp [Value.ownBlock] at hb
    | some x => simpa [Value.ownBlock] using hb)
  have ho := h.om.pop
  refine ⟨one_setN h.hm, one_grown h.hu hs (by simpa using fun e => d1 e.symm), one_grown h.ht hs (by simpa using fun e => d2 e.symm), ⟨ho.1, ho.2.kept hs ?_⟩, h.d, heo⟩
  cases hc : (Value.slice am m.length cm).ownBlock with
  | none => exact .inl rfl
  | some b => exact .inr (fun e => (heo b hc).1 (by first | simpa using e | simpa using e.symm))
/-- What the closure says of m and of used. -/
def FfR (O : Option (List Int)) (m : List Int) (u : Nat) (m' : List Int) (u' : Nat) : Prop := (O = none → m' = m ∧ u' = u) ∧ (∀ y, O = some y → m' = y)
theorem FfR.no (m : List Int) (u : Nat) : FfR none m u m u := ⟨fun _ => ⟨rfl, rfl⟩, fun y h => by cases h⟩
theorem FfR.yes (m : List Int) (u : Nat) (y : List Int) (u' : Nat) : FfR (some y) m u y u' := ⟨fun h => by simp at h, fun z h => by simpa using h⟩
theorem addrG {w : World} {B : Nat} {a : Option Addr} {cap : Nat} {xs : List Int} (h : OwnI w B a cap xs) (hx : 0 < xs.length) : ∃ g, a = some ⟨g, 0, none⟩ := by
  rcases h.2.2 with ⟨hv, hn⟩ | ⟨g, c, cur, hv, hg, hh, hnc, hcm, hcs, htake⟩
  · omega
  · simp only [Value.slice.injEq, true_and] at hv
    obtain ⟨rfl, rfl⟩ := hv
    exact ⟨g, rfl⟩
theorem below_drewC {B : Nat} {a w : World} (h : Below B a w) : Below B a w.drew := ⟨h.os, h.tape, h.output, h.size, h.block⟩
set_option maxRecDepth 20000 in
set_option maxHeartbeats 12800000 in
theorem ff_cl (w0 : World) (ag : Option Addr) (cg : Nat) (os : List Int) (ah : Option Addr) (ch : Nat) (hs : List Int) (al : Option Addr) (cl : Nat) (l : List Int) (aa : Option Addr) (ca : Nat) (Lb : List Int) (bm bl bg bh ba bu bt : Nat) (H0 : Ints w0 ag cg os) (H1 : Ints w0 ah ch hs) (HL : Ints w0 al cl l) (HA : Ints w0 aa ca Lb)
    (hbl : w0.cell? ⟨bl, 0, none⟩ = some (.slice al l.length cl)) (hba : w0.cell? ⟨ba, 0, none⟩ = some (.slice aa Lb.length ca)) (hbg : w0.cell? ⟨bg, 0, none⟩ = some (.slice ag os.length cg)) (hbh : w0.cell? ⟨bh, 0, none⟩ = some (.slice ah hs.length ch)) (zl : bl < w0.heap.size) (za : ba < w0.heap.size) (zg : bg < w0.heap.size) (zh : bh < w0.heap.size)
    (hg0 : grpB os = true) (hh0 : grpB hs = true) (hl5 : l.length ≤ 5) (hle : ∀ x ∈ l, 0 ≤ x ∧ x < 1000) (hLb : ∀ x ∈ Lb, 0 ≤ x ∧ x < 24) (hLl : Lb.length ≤ 64) :
    ∀ (d : Nat) (m : List Int) (am : Option Addr) (cm u : Nat) (w : World), m.length + d = l.length → EnvF w w0.heap.size bm bl bg bh ba bu bt m am cm u → Below w0.heap.size w0 w → (∀ x ∈ m, 0 ≤ x ∧ x < 24) → u < 16777216 → (∀ x : Nat, u.testBit x = true ↔ (x : Int) ∈ m) →
    Calls Try.prog 123 #[.pointer (some ⟨bm, 0, none⟩), .pointer (some ⟨bl, 0, none⟩), .pointer (some ⟨bg, 0, none⟩), .pointer (some ⟨bh, 0, none⟩), .pointer (some ⟨ba, 0, none⟩), .pointer (some ⟨bu, 0, none⟩), .pointer (some ⟨bt, 0, none⟩)] w fun e w' =>
      e = .returned (.bool (fiI os hs l Lb d m).isSome) ∧ ∃ (m' : List Int) (am' : Option Addr) (cm' u' : Nat), EnvF w' w0.heap.size bm bl bg bh ba bu bt m' am' cm' u' ∧ Below w0.heap.size w0 w' ∧ FfR (fiI os hs l Lb d m) m u m' u' := by
  have KE := Lib.hid (fun am cm (m : List Int) w h0 h1 k0 k1 (hml : m.length = l.length) hme => show Calls Try.prog 120 #[.agg #[.slice ag os.length cg], .agg #[.slice ah hs.length ch], .slice al l.length cl, .slice am m.length cm] w fun e w' => e = .returned (.bool (kpB os hs l m l.length)) ∧ Below w.heap.size w w' from by
    rw [hml]
    exact keeps_impl ag cg os ah ch hs al cl l am cm m l.length w h0 h1 k0 k1 hg0 hh0 rfl hml (by omega) hle hme)
  have KF := Lib.hid (fun am cm (m : List Int) w h0 h1 k0 k1 (hml : m.length = l.length) hme => show Calls Try.prog 120 #[.agg #[.slice ah hs.length ch], .agg #[.slice ag os.length cg], .slice am m.length cm, .slice al l.length cl] w fun e w' => e = .returned (.bool (kpB hs os m l l.length)) ∧ Below w.heap.size w w' from by
    rw [hml]
    exact keeps_impl ah ch hs ag cg os am cm m al cl l l.length w h1 h0 k1 k0 hh0 hg0 hml rfl (by omega) hme hle)
  have hcl := Lib.hid hbl
  have hca := Lib.hid hba
  have hcg := Lib.hid hbg
  have hch := Lib.hid hbh
  have HLB := Lib.hid hLb
  clear hbl hba hbg hbh hg0 hh0 hle hLb
  intro d
  induction d with
  | zero =>
    intro m am cm u w hid env hbel hm hu hum
    have hlb : ((m.length : Int) == (l.length : Int)) = true := by simp; omega
    have hml : m.length = l.length := by omega
    have ql := (hbel.cell (p := ⟨bl, 0, none⟩) zl).trans hcl.out
    have qg := (hbel.cell (p := ⟨bg, 0, none⟩) zg).trans hcg.out
    have qh := (hbel.cell (p := ⟨bh, 0, none⟩) zh).trans hch.out
    have qm := cell_of_one env.hm
    have i0 := H0.below hbel (Nat.le_refl _)
    have i1 := H1.below hbel (Nat.le_refl _)
    have iL := HL.below hbel (Nat.le_refl _)
    have C1 := Lib.hid (KE.out am cm m w i0 i1 iL env.om.ints hml (fun x hx => by have := hm x hx; omega))
    have C2 := Lib.hid (fun w' (b : Below w.heap.size w w') => KF.out am cm m w' (i0.below b (Nat.le_refl _)) (i1.below b (Nat.le_refl _)) (iL.below b (Nat.le_refl _)) (env.om.ints.below b (Nat.le_refl _)) hml (fun x hx => by have := hm x hx; omega))
    have HV : Hid (fiI os hs l Lb 0 m = if k2B os hs l m l.length = true then some m else none) := Lib.hid rfl
    have HK : Hid (k2B os hs l m l.length = (kpB os hs l m l.length && kpB hs os m l l.length)) := Lib.hid rfl
    obtain ⟨v1, hv1⟩ : ∃ v, v = kpB os hs l m l.length := ⟨_, rfl⟩
    obtain ⟨v2, hv2⟩ : ∃ v, v = kpB hs os m l l.length := ⟨_, rfl⟩
    rw [← hv1] at C1 HK
    rw [← hv2] at C2 HK
    rw [HK.out] at HV
    obtain ⟨O, hO⟩ : ∃ o, o = fiI os hs l Lb 0 m := ⟨_, rfl⟩
    rw [← hO] at HV ⊢
    have HE := Lib.hid env
    have HB := Lib.hid hbel
    have hsz := hbel.size
    have zm := lt_of_block env.hm
    clear hid hml hm hum i0 i1 iL env hbel KE KF hv1 hv2 hO HK
    cases v1 with
    | false =>
      have eO : O = none := by rw [HV.out]; rfl
      subst eO
      clear HV
      go_enter Try.func123, Try.ntmps123
      go_wp2_with fail
      refine C1.out.mono ?_; rintro e w1 ⟨rfl, b1⟩
      go_wp2_with fail
      go_ret
      exact ⟨rfl, m, am, cm, u, HE.out.below b1, HB.out.trans (b1.mono hsz), FfR.no _ _⟩
    | true =>
      go_enter Try.func123, Try.ntmps123
      go_wp2_with fail
      refine C1.out.mono ?_; rintro e w1 ⟨rfl, b1⟩
      have ql1 := (b1.cell (p := ⟨bl, 0, none⟩) (by show bl < w.heap.size; omega)).trans ql
      have qg1 := (b1.cell (p := ⟨bg, 0, none⟩) (by show bg < w.heap.size; omega)).trans qg
      have qh1 := (b1.cell (p := ⟨bh, 0, none⟩) (by show bh < w.heap.size; omega)).trans qh
      have qm1 := (b1.cell (p := ⟨bm, 0, none⟩) zm).trans qm
      clear ql qg qh qm
      go_wp2_with fail
      refine (C2.out _ b1).mono ?_; rintro e w2 ⟨rfl, b2⟩
      have b3 := nx b1 b2
      cases v2 with
      | false =>
        have eO : O = none := by rw [HV.out]; rfl
        subst eO
        go_wp2_with fail
        go_ret
        exact ⟨rfl, m, am, cm, u, HE.out.below b3, HB.out.trans (b3.mono hsz), FfR.no _ _⟩
      | true =>
        have eO : O = some m := by rw [HV.out]; rfl
        subst eO
        go_wp2_with fail
        go_ret
        exact ⟨rfl, m, am, cm, u, HE.out.below b3, HB.out.trans (b3.mono hsz), FfR.yes _ _ _ _⟩
  | succ d ih =>
    intro m am cm u w hid env hbel hm hu hum
    have hlb : ((m.length : Int) == (l.length : Int)) = false := by simp; omega
    obtain ⟨F, hF⟩ : ∃ F : Int → Option (List Int), F = fun x => if x ∈ m then none else fiI os hs l Lb d (m ++ [x]) := ⟨_, rfl⟩
    have hFe : fiI os hs l Lb (d + 1) m = Lb.findSome? F := by rw [hF]; rfl
    have HFX : Hid (∀ x, F x = if x ∈ m then none else fiI os hs l Lb d (m ++ [x])) := Lib.hid (fun x => by rw [hF])
    rw [hFe]
    obtain ⟨R, hR⟩ : ∃ R, R = Lb.findSome? F := ⟨_, rfl⟩
    rw [← hR]
    have HR0 : Hid ((Lb.drop 0).findSome? F = R) := Lib.hid (by rw [hR]; rfl)
    have IH := Lib.hid ih
    have HID := Lib.hid hid
    have HM := Lib.hid hm
    have HUM := Lib.hid hum
    have ql := (hbel.cell (p := ⟨bl, 0, none⟩) zl).trans hcl.out
    have qa := (hbel.cell (p := ⟨ba, 0, none⟩) za).trans hca.out
    have qm := cell_of_one env.hm
    have hml4 : m.length ≤ 4 := by omega
    clear ih hid hm hum hF hFe hR
    go_enter Try.func123, Try.ntmps123
    go_wp2_with fail
    go_loopw [29] (fun vi wr => ∃ (k : Nat) (am : Option Addr) (cm : Nat), k ≤ Lb.length ∧ vi = .int .i64 (k : Int) ∧ Hid ((Lb.drop k).findSome? F = R) ∧ EnvF wr w0.heap.size bm bl bg bh ba bu bt m am cm u ∧ Below w0.heap.size w0 wr) (fun vi _ => Lb.length - (intOf vi).toNat)
    case atStart => exact ⟨0, am, cm, by omega, rfl, HR0, env, hbel⟩
    case round =>
      clear env hbel HR0 ql qa qm
      obtain ⟨k, am, cm, hk, rfl, HR, env, hbel⟩ := hrel
      by_cases hlk : k < Lb.length
      · have hki : (k : Int) < Lb.length := by omega
        rcases HA.2.2.2.2 with h | ⟨by_, oy, rfl, hyB, hyc⟩
        · rw [h] at hlk; simp at hlk
        have dX := (hbel.cell (p := ⟨by_, oy + k, none⟩) hyB).trans (hyc k hlk)
        have hst := HR.out
        rw [List.drop_eq_getElem_cons hlk, List.findSome?_cons] at hst
        have hx24 := HLB.out _ (List.getElem_mem hlk)
        obtain ⟨x, hx⟩ : ∃ x, x = Lb[k] := ⟨_, rfl⟩
        rw [← hx] at dX hst hx24
        obtain ⟨x, rfl⟩ := Int.eq_ofNat_of_zero_le hx24.1
        have hxl : x < 24 := by omega
        have hFx := HFX.out (x : Int)
        have hbit := HUM.out x
        have CI := Lib.hid (in_any u x (by omega) (by omega))
        have qu := cell_of_one env.hu
        have fu := free_of_one env.hu
        clear hyc hx HR hx24
        cases hub : u.testBit x with
        | true =>
          rw [hub] at CI
          have hmem : (x : Int) ∈ m := hbit.1 hub
          rw [if_pos hmem] at hFx
          rw [hFx] at hst
          have hst2 := Lib.hid (show (Lb.drop (k + 1)).findSome? F = R by simpa using hst)
          clear hst hFx hbit hub hmem
          go_wp2_with fail
          refine (CI.out _).mono ?_; rintro e w' ⟨rfl, rfl⟩
          go_wp2_with fail
          go_roundw
          case rel => exact ⟨k + 1, am, cm, by omega, by go_num, hst2, env, hbel⟩
          case measure => simp [intOf]; omega
        | false =>
          rw [hub] at CI
          have hnm : ¬ (x : Int) ∈ m := fun h => by rw [hbit.2 h] at hub; cases hub
          rw [if_neg hnm] at hFx
          obtain ⟨T, hT, hT1, hw, hor⟩ := or_one u x hu hxl
          have hu2 : u ||| T < 16777216 := by
            have : u ||| T < 2 ^ 24 := Nat.or_lt_two_pow (by omega) (by rw [hT]; exact Nat.pow_lt_pow_right (by decide) hxl)
            simpa using this
          have hum2 : Hid (∀ z : Nat, (u ||| T).testBit z = true ↔ (z : Int) ∈ m ++ [(x : Int)]) := Lib.hid (fun z => by
            rw [hT, Nat.testBit_or, Bool.or_eq_true, HUM.out z, Nat.testBit_two_pow, decide_eq_true_eq, List.mem_append, List.mem_singleton]
            constructor
            · rintro (h | h)
              · exact .inl h
              · exact .inr (by omega)
            · rintro (h | h)
              · exact .inl h
              · exact .inr (by omega))
          have hmin : bits .andNot .i64 ((u ||| T : Nat) : Int) (T : Int) = (u : Int) := by
            rw [andNot_nat _ _ (by omega) (by omega), hT, minus_or hu hxl hub]
          obtain ⟨u2, hu2e⟩ : ∃ v, v = u ||| T := ⟨_, rfl⟩
          rw [← hu2e] at hor hu2 hum2 hmin
          have env1 := (env.setU u2).drew
          have hb1 := below_drewC (hbel.setCell (p := ⟨bu, 0, none⟩) env.d.2.2 (.int .i64 (u2 : Int)))
          have HE1 := Lib.hid env1
          have HB1 := Lib.hid hb1
          have hx0 : ¬ ((x : Int) < 0) := by omega
          clear hbit hub hnm hT hu2e env hbel env1 hb1
          go_wp2_with fail
          refine (CI.out _).mono ?_; rintro e w' ⟨rfl, rfl⟩
          go_wp2_with fail
          go_region
          obtain ⟨w3, hw3⟩ : ∃ W, W = (wr.setCell ⟨bu, 0, none⟩ (.int .i64 (u2 : Int))).drew := ⟨_, rfl⟩
          rw [← hw3] at HE1 HB1 ⊢
          have env3 := HE1.out
          have hb3 := HB1.out
          have qm3 := cell_of_one env3.hm
          have fm3 := free_of_one env3.hm
          have om3 := env3.om
          have hxw : (Lit.int .i64 (x : Int)).wf = true := wf_of (by omega) (by omega)
          have hml : m.length ≤ 2000000 := by omega
          have hsz3 := hb3.size
          clear hw3 HE1 HB1 qu fu CI dX
          go_wp2_with (at_builtin; refine wpList_appG rfl _ _ rfl w0.heap.size am cm m (x : Int) rfl rfl om3 hxw hml hsz3 ?_)
          intro g c' w5 o5 hgr hg2 hat
          obtain ⟨km, env5⟩ := env3.app o5 hg2 hat
          have hb5 := (hgr _ hb3).setCell (p := ⟨bm, 0, none⟩) env3.d.2.1 (.slice (some ⟨g, 0, none⟩) (m.length + 1) c')
          have k1 := cell_of_one km
          have k2 := free_of_one km
          have CI2 := Lib.hid (IH.out (m ++ [(x : Int)]) (some ⟨g, 0, none⟩) c' u2 _ (by have := HID.out; simp only [List.length_append, List.length_singleton]; omega) env5 hb5 (fun z hz => by
            rcases List.mem_append.1 hz with h | h
            · exact HM.out z h
            · simp at h; subst h; omega) hu2 hum2.out)
          have q6 := cell_of_one env5.ht
          obtain ⟨V, hV⟩ : ∃ v, v = fiI os hs l Lb d (m ++ [(x : Int)]) := ⟨_, rfl⟩
          rw [← hV] at CI2 hFx
          rw [hFx] at hst
          clear o5 hgr hg2 hat km env5 hb5 env3 hb3 om3 qm3 fm3 hV hFx
          go_wp2_with fail
          refine CI2.out.mono ?_; rintro e w7 ⟨rfl, m7, am7, cm7, u7, env7, hb7, hR7⟩
          clear CI2 q6 k1 k2
          cases V with
          | some y =>
            obtain rfl : R = some y := by simpa using hst.symm
            have em : m7 = y := hR7.2 y rfl
            subst em
            clear hst hR7
            go_wp2_with fail
            go_ret
            exact ⟨rfl, m7, am7, cm7, u7, env7, hb7, FfR.yes _ _ _ _⟩
          | none =>
            obtain ⟨e1, e2⟩ := hR7.1 rfl
            subst e1
            subst e2
            have hst2 := Lib.hid (show (Lb.drop (k + 1)).findSome? F = R by simpa using hst)
            obtain ⟨g7, rfl⟩ := addrG env7.om (by simp)
            have hcap : m.length + 1 ≤ cm7 := by have := env7.om.ints.1; simpa using this
            have hcapi : (m.length : Int) ≤ cm7 := by omega
            have hm0 : (0 : Int) ≤ (m.length : Int) := by omega
            have hmw : IntKind.i64.wrap ((m.length : Int) + 1 - 1) = (m.length : Int) := by rw [IntKind.wrap_i64]; omega
            have qu := cell_of_one env7.hu
            have fu := free_of_one env7.hu
            have HE8 := Lib.hid (env7.setU u).drew
            have HB8 := Lib.hid (below_drewC (hb7.setCell (p := ⟨bu, 0, none⟩) env7.d.2.2 (.int .i64 (u : Int))))
            clear hst hR7 env7 hb7
            go_wp2_with fail
            go_region
            obtain ⟨w8, hw8⟩ : ∃ W, W = (w7.setCell ⟨bu, 0, none⟩ (.int .i64 (u : Int))).drew := ⟨_, rfl⟩
            rw [← hw8] at HE8 HB8 ⊢
            have qm8 := cell_of_one HE8.out.hm
            have fm8 := free_of_one HE8.out.hm
            rw [show (m ++ [(x : Int)]).length = m.length + 1 by simp] at qm8
            have HE9 := Lib.hid HE8.out.popS
            have HB9 := Lib.hid (HB8.out.setCell (p := ⟨bm, 0, none⟩) HE8.out.d.2.1 (.slice (some ⟨g7, 0, none⟩) m.length cm7))
            clear hw8 HE8 HB8 qu fu
            go_wp2_with fail
            go_roundw
            case rel => exact ⟨k + 1, _, _, by omega, by go_num, hst2, HE9.out, HB9.out⟩
            case measure => simp [intOf]; omega
      · obtain rfl : k = Lb.length := by omega
        have e := HR.out
        rw [List.drop_length] at e
        have eR : R = none := e.symm
        subst eR
        clear e HR
        go_wp2_with fail
        go_ret
        exact ⟨rfl, m, am, cm, u, env, hbel, FfR.no _ _⟩
end Go.Proofs.Ytokpgbpdmfibjaa
