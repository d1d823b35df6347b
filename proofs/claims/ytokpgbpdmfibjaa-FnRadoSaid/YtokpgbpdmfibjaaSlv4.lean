/-
The program's MonochromeSolution: the function that it hands to the search, and itself. Conditions: lengths at most 2000000.
-/
import Derived.Test.YtokpgbpdmfibjaaSlv3
import Derived.Test.YtokpgbpdmfibjaaZc
import Derived.Deep.QuietTactic
import Derived.BigQuiet
namespace Go.Proofs.Ytokpgbpdmfibjaa
open Go.RowKit Go.ChangeShapes
set_option linter.unusedVariables false

/-- The first solution of one color. -/
def moF (c cs : List Int) : Option (List Int) := if eqnB c = true ∧ inB cs.length 1 12 = true then (solL c cs.length (fun _ _ => true) c.length []).find? (mono cs) else none
def moL (c cs : List Int) : List Int := (moF c cs).getD []
def moB (c cs : List Int) : Bool := (moF c cs).isSome
/-- The last list of one color, none for none. -/
def lastM (cs : List Int) (L : List (List Int)) : List Int := ((L.filter (mono cs)).getLast?).getD []
theorem lastM_yes {cs x : List Int} (L : List (List Int)) (h : mono cs x = true) : lastM cs (L ++ [x]) = x := by
  simp [lastM, List.filter_append, h]
theorem lastM_no {cs x : List Int} (L : List (List Int)) (h : mono cs x = false) : lastM cs (L ++ [x]) = lastM cs L := by
  simp [lastM, List.filter_append, h]
theorem upTo_last (cs : List Int) : ∀ (l : List (List Int)), lastM cs (upTo (mono cs) l) = (l.find? (mono cs)).getD []
  | [] => rfl
  | x :: t => by
    have ih := upTo_last cs t
    unfold upTo
    cases h : mono cs x with
    | true => simp [lastM, h]
    | false =>
      simp only [Bool.false_eq_true, if_false, List.find?_cons, h]
      rw [← ih]
      simp [lastM, h]
theorem any_find (p : List Int → Bool) : ∀ (l : List (List Int)), l.any p = (l.find? p).isSome
  | [] => rfl
  | x :: t => by
    have ih := any_find p t
    cases h : p x <;> simp [h, ih]
theorem mono_ne {cs x : List Int} {k : Nat} (hk : k < x.length) (h : cs.getD (x[k] - 1).toNat 0 ≠ cs.getD (x.headD 0 - 1).toNat 0) : mono cs x = false := by
  unfold mono
  rw [List.all_eq_false]
  exact ⟨x[k], List.getElem_mem hk, by simpa using h⟩
theorem mono_all {cs x : List Int} (h : ∀ k (hk : k < x.length), cs.getD (x[k] - 1).toNat 0 = cs.getD (x.headD 0 - 1).toNat 0) : mono cs x = true := by
  unfold mono
  rw [List.all_eq_true]
  intro y hy
  obtain ⟨k, hk, rfl⟩ := List.mem_iff_getElem.1 hy
  simpa using h k hk

/-- The boxes of the colors and of the solution. -/
structure BoxM (w0 : World) (B bc0 bo bc bk bx bn bt bm : Nat) (a1 : Option Addr) (c1 : Nat) (cs : List Int) (L : List (List Int)) (ao : Option Addr) (co : Nat) (w : World) : Prop where
  hc : w.heap[bc0]? = some (.cells #[.slice a1 cs.length c1] 24 (0, 0))
  ho : w.heap[bo]? = some (.cells #[.slice ao (lastM cs L).length co] 24 (0, 0))
  oo : OwnI w B ao co (lastM cs L)
  eo : ∀ y, ao = some y → y.block ≠ bm ∧ y.block ≠ bo
  ne : bo ≠ bc ∧ bo ≠ bk ∧ bo ≠ bx ∧ bo ≠ bn ∧ bo ≠ bt ∧ bo ≠ bm
  nc : bc0 ≠ bm ∧ bc0 ≠ bo
def StM (w0 : World) (B bc0 bo : Nat) (a1 : Option Addr) (c1 : Nat) (cs : List Int) (bc bk bx bn bt bm : Nat) (L : List (List Int)) (w : World) : Prop := ∃ ao co, BoxM w0 B bc0 bo bc bk bx bn bt bm a1 c1 cs L ao co w
theorem StM.set {w0 : World} {B bc0 bo bc bk bx bn bt bm : Nat} {a1 : Option Addr} {c1 : Nat} {cs : List Int} {L : List (List Int)} {w : World} (j : Nat) (v : Value) (h : StM w0 B bc0 bo a1 c1 cs bc bk bx bn bt bm L w) : StM w0 B bc0 bo a1 c1 cs bc bk bx bn bt bm L (w.setCell ⟨bm, j, none⟩ v) := by
  obtain ⟨ao, co, h⟩ := h
  have hg : w.grownBy (w.setCell ⟨bm, j, none⟩ v) (some bm) := ⟨rfl, rfl, rfl, by simp [World.setCell], fun k _ hne => Below.heap_setCell _ _ _ _ (fun e => hne (by rw [e]))⟩
  obtain ⟨d1, d2, d3, d4, d5, d6⟩ := h.ne
  exact ⟨ao, co, one_grown h.hc hg (by simpa using h.nc.1), one_grown h.ho hg (by simpa using d6), h.oo.grown hg (fun y hy e => (h.eo y hy).1 (by simpa using e.symm)), h.eo, h.ne, h.nc⟩
theorem StM.drew {w0 : World} {B bc0 bo bc bk bx bn bt bm : Nat} {a1 : Option Addr} {c1 : Nat} {cs : List Int} {L : List (List Int)} {w : World} (h : StM w0 B bc0 bo a1 c1 cs bc bk bx bn bt bm L w) : StM w0 B bc0 bo a1 c1 cs bc bk bx bn bt bm L w.drew := by
  obtain ⟨ao, co, h⟩ := h
  exact ⟨ao, co, h.hc, h.ho, ⟨h.oo.1, h.oo.2⟩, h.eo, h.ne, h.nc⟩
theorem StM.below {w0 : World} {B bc0 bo bc bk bx bn bt bm : Nat} {a1 : Option Addr} {c1 : Nat} {cs : List Int} {L : List (List Int)} {w w' : World} (h : StM w0 B bc0 bo a1 c1 cs bc bk bx bn bt bm L w) (hb : Below w.heap.size w w') : StM w0 B bc0 bo a1 c1 cs bc bk bx bn bt bm L w' := by
  obtain ⟨ao, co, h⟩ := h
  exact ⟨ao, co, one_below h.hc hb (Nat.le_refl _), one_below h.ho hb (Nat.le_refl _), h.oo.below hb (Nat.le_refl _), h.eo, h.ne, h.nc⟩

theorem BoxM.below {w0 : World} {B bc0 bo bc bk bx bn bt bm : Nat} {a1 : Option Addr} {c1 : Nat} {cs : List Int} {L : List (List Int)} {ao : Option Addr} {co : Nat} {w w' : World} (h : BoxM w0 B bc0 bo bc bk bx bn bt bm a1 c1 cs L ao co w) (hb : Below w.heap.size w w') : BoxM w0 B bc0 bo bc bk bx bn bt bm a1 c1 cs L ao co w' :=
  ⟨one_below h.hc hb (Nat.le_refl _), one_below h.ho hb (Nat.le_refl _), h.oo.below hb (Nat.le_refl _), h.eo, h.ne, h.nc⟩
theorem StM.no {w0 : World} {B bc0 bo bc bk bx bn bt bm : Nat} {a1 : Option Addr} {c1 : Nat} {cs : List Int} {L : List (List Int)} {w : World} {x : List Int} (h : StM w0 B bc0 bo a1 c1 cs bc bk bx bn bt bm L w) (hx : mono cs x = false) : StM w0 B bc0 bo a1 c1 cs bc bk bx bn bt bm (L ++ [x]) w := by
  obtain ⟨ao, co, h⟩ := h
  exact ⟨ao, co, h.hc, by rw [lastM_no L hx]; exact h.ho, by rw [lastM_no L hx]; exact h.oo, h.eo, h.ne, h.nc⟩
theorem KeptQ.below {w w' : World} {B bc bk bx bn bt bm : Nat} {a0 : Option Addr} {c0 : Nat} {c : List Int} {n K : Nat} {caps : Array Value} {xs : List Int} (env : EnvQ w B bc bk bx bn bt bm a0 c0 c n K caps xs) (hb : Below w.heap.size w w') : KeptQ bc bk bx bn bt bm w w' := by
  have l1 := lt_of_block env.hc
  have l2 := lt_of_block env.hk
  have l3 := lt_of_block env.hx
  have l4 := lt_of_block env.hn
  have l5 := lt_of_block env.ht
  have l6 := (env.ox.lt _ rfl).2
  simp only at l6
  intro b h
  exact hb.block b (by rcases h with h | h | h | h | h | h <;> omega)
theorem fin_m {w0 w w1 w2 : World} {B bc0 bo bc bk bx bn bt bm : Nat} {a0 : Option Addr} {c0 : Nat} {c : List Int} {a1 : Option Addr} {c1 : Nat} {cs : List Int} {n K : Nat} {caps : Array Value} {L : List (List Int)} {x : List Int} {ao : Option Addr} {co : Nat} {af : Option Addr} {cf : Nat}
    (bq : BoxM w0 B bc0 bo bc bk bx bn bt bm a1 c1 cs L ao co w) (env : EnvQ w B bc bk bx bn bt bm a0 c0 c n K caps x) (hb : Below w.heap.size w w1) (b2 : Below w1.heap.size w1 w2) (of : OwnI w2 w1.heap.size af cf x) (hBo : B ≤ bo) (hB0 : w0.heap.size ≤ B) (hbel : Below B w0 w) (hx : mono cs x = true) :
    StM w0 B bc0 bo a1 c1 cs bc bk bx bn bt bm (L ++ [x]) (w2.setCell ⟨bo, 0, none⟩ (.slice af x.length cf)) ∧ KeptQ bc bk bx bn bt bm w (w2.setCell ⟨bo, 0, none⟩ (.slice af x.length cf)) ∧ Below B w0 (w2.setCell ⟨bo, 0, none⟩ (.slice af x.length cf)) := by
  have hb2 := nx hb b2
  have bq2 := bq.below hb2
  have hs := grown_set (w := w2) bo (.slice af x.length cf)
  have zo := lt_of_block bq.ho
  have z1 := hb.size
  have zm := (env.ox.lt _ rfl).2
  simp only at zm
  have k2 := KeptQ.below env hb2
  obtain ⟨n1, n2, n3, n4, n5, n6⟩ := bq.ne
  have hfo : ∀ y, af = some y → y.block ≠ bm ∧ y.block ≠ bo := fun y hy => by
    have := (of.lt y hy).1
    exact ⟨by omega, by omega⟩
  refine ⟨⟨af, cf, one_grown bq2.hc hs (by simpa using bq.nc.2), ?_, ?_, hfo, bq.ne, bq.nc⟩, fun b h => ?_, ?_⟩
  · rw [lastM_yes L hx]; exact one_setCell bq2.ho
  · rw [lastM_yes L hx]
    exact (of.mono (by omega)).grown hs (fun y hy e => (hfo y hy).2 (by simpa using e.symm))
  · rw [Below.heap_setCell _ _ _ _ (show b ≠ bo by rcases h with h | h | h | h | h | h <;> omega)]
    exact k2 b h
  · exact (hbel.trans (hb2.mono (by omega))).setCell (p := ⟨bo, 0, none⟩) hBo _
set_option maxRecDepth 20000 in
set_option maxHeartbeats 3200000 in
theorem take_m (w0 : World) (B bc0 bo : Nat) (a0 : Option Addr) (c0 : Nat) (c : List Int) (a1 : Option Addr) (c1 : Nat) (cs : List Int) (hI : Ints w0 a1 c1 cs) (hB0 : w0.heap.size ≤ B) (hBo : B ≤ bo) (hc4 : c.length ≤ 4) (hcl : cs.length ≤ 12) : ∀ bc bk bx bn bt bm (L : List (List Int)) (x : List Int) (w : World), StM w0 B bc0 bo a1 c1 cs bc bk bx bn bt bm L w → EnvQ w B bc bk bx bn bt bm a0 c0 c cs.length 117 #[.pointer (some ⟨bc0, 0, none⟩), .pointer (some ⟨bo, 0, none⟩)] x → (∀ y ∈ x, 1 ≤ y ∧ y ≤ (cs.length : Int)) → Below B w0 w → L.length ≤ 30000 →
      Calls Try.prog 117 (#[.slice (some ⟨bm, 0, none⟩) c.length c.length] ++ #[.pointer (some ⟨bc0, 0, none⟩), .pointer (some ⟨bo, 0, none⟩)]) w fun e w' => e = .returned (.bool (mono cs x)) ∧ StM w0 B bc0 bo a1 c1 cs bc bk bx bn bt bm (L ++ [x]) w' ∧ KeptQ bc bk bx bn bt bm w w' ∧ Below B w0 w' := by
  intro bc bk bx bn bt bm L x w st env hx hbel _
  have hlx := env.lx
  have HX := Lib.hid hx
  have HLX := Lib.hid hlx
  have hHM : Hid (∀ j, (hj : j < x.length) → w.cell? ⟨bm, j, none⟩ = some (.int .i64 x[j])) := Lib.hid (fun j hj => by
    have := env.ox.2.cellAt j (by omega)
    rw [this]; simp [hj])
  have HCS := Lib.hid hI.2.2.2.2
  have HST := Lib.hid st
  have HE := Lib.hid env
  have HBL := Lib.hid hbel
  have HQ : ∃ ao co, Hid (BoxM w0 B bc0 bo bc bk bx bn bt bm a1 c1 cs L ao co w) := st
  obtain ⟨ao, co, HQ⟩ := HQ
  have q1 := cell_of_one HQ.out.hc
  have zb := lt_of_block HQ.out.hc
  have zm := (env.ox.lt _ rfl).2
  simp only at zm
  have CC := Lib.hid (fun w' (h : Ints w' (some ⟨bm, 0, none⟩) c.length x) => by
    have := copyInts_any (some ⟨bm, 0, none⟩) c.length x w' h (by omega)
    rw [hlx] at this
    exact this)
  have HIX := Lib.hid env.ox.ints
  obtain ⟨m, hm⟩ : ∃ m, m = mono cs x := ⟨_, rfl⟩
  have HM := Lib.hid hm
  rw [← hm]
  clear hm hI hx hlx st env hbel
  go_enter Try.func117, Try.ntmps117
  go_wp2_with fail
  go_loopw [6, 9] (fun v6 vi wr => ∃ (k : Nat), k ≤ c.length ∧ vi = .int .i64 (k : Int) ∧ Hid (∀ j, (hj : j < x.length) → j < k → cs.getD (x[j] - 1).toNat 0 = cs.getD (x.headD 0 - 1).toNat 0) ∧ Below w.heap.size w wr) (fun _ vi _ => (c.length - intOf vi).toNat)
  case atStart => exact ⟨0, by omega, rfl, Lib.hid (fun j _ h => by omega), Below.refl _ _⟩
  case round =>
    obtain ⟨k, hk, rfl, HG, hb⟩ := hrel
    by_cases hlt : k < c.length
    · have hkx : k < x.length := by have := HLX.out; omega
      have h0x : 0 < x.length := by omega
      have d1 := (hb.cell (p := ⟨bm, k, none⟩) zm).trans (hHM.out k hkx)
      have d0 := (hb.cell (p := ⟨bm, 0, none⟩) zm).trans (hHM.out 0 h0x)
      have q2 := (hb.cell (p := ⟨bc0, 0, none⟩) zb).trans q1
      have b1 := HX.out _ (List.getElem_mem hkx)
      have b0 := HX.out _ (List.getElem_mem h0x)
      have hhd : x.headD 0 = x[0] := by cases x with | nil => simp at h0x | cons a t => rfl
      have HNE : Hid (cs.getD (x[k] - 1).toNat 0 ≠ cs.getD (x[0] - 1).toNat 0 → m = false) := Lib.hid (fun h => by rw [HM.out]; exact mono_ne hkx (by rw [hhd]; exact h))
      have HEQ : Hid (cs.getD (x[k] - 1).toNat 0 = cs.getD (x[0] - 1).toNat 0 → ∀ j, (hj : j < x.length) → j < k + 1 → cs.getD (x[j] - 1).toNat 0 = cs.getD (x.headD 0 - 1).toNat 0) := Lib.hid (fun h j hj hjk => by
        by_cases e : j = k
        · subst e; rw [hhd]; exact h
        · exact HG.out j hj (by omega))
      obtain ⟨v, hv⟩ : ∃ v, v = x[k] := ⟨_, rfl⟩
      obtain ⟨u, hu⟩ : ∃ v, v = x[0] := ⟨_, rfl⟩
      rw [← hv] at d1 b1 HNE HEQ
      rw [← hu] at d0 b0 HNE HEQ
      obtain ⟨V, hV⟩ : ∃ V : Nat, V = (v - 1).toNat := ⟨_, rfl⟩
      obtain ⟨U, hU⟩ : ∃ V : Nat, V = (u - 1).toNat := ⟨_, rfl⟩
      rw [← hV, ← hU] at HNE HEQ
      rcases HCS.out with hcs | ⟨b, off, rfl, hbB, hcell⟩
      · subst hcs; simp at b1; omega
      have hVl : V < cs.length := by omega
      have hUl : U < cs.length := by omega
      have hw0 : b < wr.heap.size := by have := hb.size; have := HBL.out.size; omega
      have hbw : ∀ i (hi : i < cs.length), wr.cell? ⟨b, off + i, none⟩ = some (.int .i64 (cs.getD i 0)) := fun i hi => by
        have e : cs.getD i 0 = cs[i] := by simp [List.getD, hi]
        rw [e]
        exact (hb.cell (p := ⟨b, off + i, none⟩) (by show b < w.heap.size; have := HBL.out.size; omega)).trans ((HBL.out.cell (p := ⟨b, off + i, none⟩) (by show b < B; omega)).trans (hcell i hi))
      have e1 := hbw V hVl
      have e2 := hbw U hUl
      obtain ⟨P, hP⟩ : ∃ P, P = cs.getD V 0 := ⟨_, rfl⟩
      obtain ⟨Q, hQ⟩ : ∃ P, P = cs.getD U 0 := ⟨_, rfl⟩
      rw [← hP] at e1 HNE HEQ
      rw [← hQ] at e2 HNE HEQ
      have hvV : v - 1 = (V : Int) := by omega
      have huU : u - 1 = (U : Int) := by omega
      have hwv : IntKind.i64.wrap (v - 1) = (V : Int) := by rw [hvV, IntKind.wrap_i64]; omega
      have hwu : IntKind.i64.wrap (u - 1) = (U : Int) := by rw [huU, IntKind.wrap_i64]; omega
      have hkl : (k : Int) < c.length := by omega
      have h0l : (0 : Int) < c.length := by omega
      have hV1 : (0 : Int) ≤ (V : Int) := by omega
      have hV2 : (V : Int) < cs.length := by omega
      have hU1 : (0 : Int) ≤ (U : Int) := by omega
      have hU2 : (U : Int) < cs.length := by omega
      clear hV hU hv hu hP hQ hcell hbw HG hhd hvV huU
      by_cases hpq : P = Q
      · have hne : (P != Q) = false := by simpa using hpq
        have HG2 := Lib.hid (HEQ.out hpq)
        clear hpq HNE HEQ
        go_wp2_with fail
        go_quiet (fail)
        go_wp2_with fail
        go_roundw
        case rel => exact ⟨k + 1, by omega, by go_num, HG2, below_drewN hb _⟩
        case measure => simp [intOf]; omega
      · have hne : (P != Q) = true := by simpa using hpq
        have e := HNE.out hpq
        subst e
        have hm0 := HM.out.symm
        have HL := Lib.hid hm0
        clear hpq HNE HEQ hm0
        go_wp2_with fail
        go_quiet (fail)
        go_wp2_with fail
        go_ret
        have zo := lt_of_block HQ.out.ho
        exact ⟨rfl, (HST.out.below (below_drewN hb _)).no HL.out, KeptQ.below HE.out (below_drewN hb _), HBL.out.trans ((below_drewN hb _).mono (by omega))⟩
    · obtain rfl : k = c.length := by omega
      have e : m = true := by rw [HM.out]; exact mono_all (fun j hj => HG.out j hj (by have := HLX.out; omega))
      subst e
      have hm0 := HM.out.symm
      have HL := Lib.hid hm0
      have CC1 := Lib.hid (CC.out wr (HIX.out.below hb (Nat.le_refl _)))
      have HQ1 := Lib.hid ((HQ.out).below hb)
      have q3 := cell_of_one HQ1.out.ho
      have q4 := free_of_one HQ1.out.ho
      have zo := lt_of_block HQ1.out.ho
      clear HG hm0 CC q1
      go_wp2_with fail
      refine CC1.out.mono ?_; rintro e w2 ⟨af, cf, rfl, of, b2⟩
      have q5 := (b2.cell (p := ⟨bo, 0, none⟩) zo).trans q3
      have q6 := (b2.frozen (p := ⟨bo, 0, none⟩) zo).trans q4
      have HF := Lib.hid (fin_m HQ.out HE.out hb b2 of hBo hB0 HBL.out HL.out)
      clear q3 q4 of
      go_wp2_with fail
      go_ret
      exact ⟨rfl, HF.out⟩
end Go.Proofs.Ytokpgbpdmfibjaa
