/-
The program's search for solutions: its closure and the function itself, for every function that is handed in and told by a contract. Conditions: 2 to 4 coefficients from -9 to 9, numbers up to 12.
-/
import Derived.Test.YtokpgbpdmfibjaaSol
import Derived.Test.YtokpgbpdmfibjaaEqn
import Derived.Test.YtokpgbpdmfibjaaRws
import Derived.Laws.EntriesVeiled
import Derived.Deep.RegionHeld3
import Derived.Outline
namespace Go.Proofs.Ytokpgbpdmfibjaa
open Go.RowKit Go.ChangeShapes
set_option linter.unusedVariables false

theorem OwnI.setX {w : World} {B b : Nat} {c : Nat} {xs : List Int} (h : OwnI w B (some ⟨b, 0, none⟩) c xs) (j : Nat) (x : Int) (hx : (Lit.int .i64 x).wf = true) : OwnI (w.setCell ⟨b, j, none⟩ (.int .i64 x)) B (some ⟨b, 0, none⟩) c (xs.set j x) := by
  have hs := (h.2.stored j (.int .i64 x)).1
  rw [← List.map_set] at hs
  refine ⟨fun y hy => ?_, by rw [List.length_set]; exact hs⟩
  rcases List.mem_or_eq_of_mem_set hy with hy | hy
  · exact h.1 y hy
  · subst hy; exact hx
theorem OwnI.blk {w w' : World} {B b : Nat} {c : Nat} {xs : List Int} (h : OwnI w B (some ⟨b, 0, none⟩) c xs) (hb : w'.heap[b]? = w.heap[b]?) : OwnI w' B (some ⟨b, 0, none⟩) c xs := by
  obtain ⟨hw, h1, h2⟩ := h
  refine ⟨hw, h1, ?_⟩
  rcases h2 with h2 | ⟨g, c', cur, e, hg, hh, r⟩
  · exact .inl h2
  · have e2 : g = b := by simp at e; exact e.1.symm
    subst e2
    exact .inr ⟨g, c', cur, e, hg, by rw [hb]; exact hh, r⟩
/-- What the closure has captured: the boxes of c, take, x, n and of itself; and x's row. -/
structure EnvQ (w : World) (B bc bk bx bn bt bm : Nat) (a0 : Option Addr) (c0 : Nat) (c : List Int) (n K : Nat) (caps : Array Value) (xs : List Int) : Prop where
  hc : w.heap[bc]? = some (.cells #[.slice a0 c.length c0] 24 (0, 0))
  hk : w.heap[bk]? = some (.cells #[.func (.func K) #[] caps] 54 (0, 0))
  hx : w.heap[bx]? = some (.cells #[.slice (some ⟨bm, 0, none⟩) c.length c.length] 24 (0, 0))
  hn : w.heap[bn]? = some (.cells #[.int .i64 (n : Int)] 3 (0, 0))
  ht : w.heap[bt]? = some (.cells #[.func (.func 136) #[] #[.pointer (some ⟨bc, 0, none⟩), .pointer (some ⟨bk, 0, none⟩), .pointer (some ⟨bx, 0, none⟩), .pointer (some ⟨bn, 0, none⟩), .pointer (some ⟨bt, 0, none⟩)]] 97 (0, 0))
  ox : OwnI w B (some ⟨bm, 0, none⟩) c.length xs
  lx : xs.length = c.length
  d : bc ≠ bm ∧ bk ≠ bm ∧ bx ≠ bm ∧ bn ≠ bm ∧ bt ≠ bm
/-- The boxes and the row are as they were. -/
def KeptQ (bc bk bx bn bt bm : Nat) (w w' : World) : Prop := ∀ b, (b = bc ∨ b = bk ∨ b = bx ∨ b = bn ∨ b = bt ∨ b = bm) → w'.heap[b]? = w.heap[b]?
variable {w w' : World} {B bc bk bx bn bt bm : Nat} {a0 : Option Addr} {c0 : Nat} {c : List Int} {n K : Nat} {caps : Array Value} {xs : List Int}
theorem EnvQ.kept (h : EnvQ w B bc bk bx bn bt bm a0 c0 c n K caps xs) (k : KeptQ bc bk bx bn bt bm w w') : EnvQ w' B bc bk bx bn bt bm a0 c0 c n K caps xs :=
  ⟨by rw [k bc (by simp)]; exact h.hc, by rw [k bk (by simp)]; exact h.hk, by rw [k bx (by simp)]; exact h.hx, by rw [k bn (by simp)]; exact h.hn, by rw [k bt (by simp)]; exact h.ht, h.ox.blk (k bm (by simp)), h.lx, h.d⟩
theorem EnvQ.drew (h : EnvQ w B bc bk bx bn bt bm a0 c0 c n K caps xs) : EnvQ w.drew B bc bk bx bn bt bm a0 c0 c n K caps xs := h.kept (fun _ _ => rfl)
theorem EnvQ.setX (h : EnvQ w B bc bk bx bn bt bm a0 c0 c n K caps xs) (j : Nat) (y : Int) (hy : (Lit.int .i64 y).wf = true) : EnvQ (w.setCell ⟨bm, j, none⟩ (.int .i64 y)) B bc bk bx bn bt bm a0 c0 c n K caps (xs.set j y) := by
  have o : ∀ {b : Nat} {v : Obj}, w.heap[b]? = some v → b ≠ bm → (w.setCell ⟨bm, j, none⟩ (.int .i64 y)).heap[b]? = some v := fun h hne => by rw [Below.heap_setCell _ _ _ _ hne]; exact h
  obtain ⟨d1, d2, d3, d4, d5⟩ := h.d
  exact ⟨o h.hc d1, o h.hk d2, o h.hx d3, o h.hn d4, o h.ht d5, h.ox.setX j y hy, by rw [List.length_set]; exact h.lx, h.d⟩

theorem pow_12 {n d : Nat} (hn : n ≤ 12) (hd : d ≤ 4) : n ^ d ≤ 30000 := by
  have h1 : n ^ d ≤ 12 ^ d := Nat.pow_le_pow_left hn d
  have h2 : 12 ^ d ≤ 12 ^ 4 := Nat.pow_le_pow_right (by decide) hd
  have h3 : 12 ^ 4 = 20736 := by decide
  omega
theorem take_set_q {im : List Int} {i : Nat} (h : i < im.length) (x : Int) : (im.set i x).take (i + 1) = im.take i ++ [x] := by
  have h2 : i < (im.set i x).length := by simpa using h
  rw [List.take_succ_eq_append_getElem h2]
  have e : (im.set i x).take i = im.take i := by
    apply List.ext_getElem?
    intro j
    by_cases hj : j < i
    · rw [List.getElem?_take_of_lt hj, List.getElem?_take_of_lt hj, List.getElem?_set_ne (by omega)]
    · rw [List.getElem?_eq_none (by simp; omega), List.getElem?_eq_none (by simp; omega)]
  rw [e]
  simp
theorem take_back_q {im p : List Int} {i : Nat} {x : Int} (h : im.take (i + 1) = p ++ [x]) (hp : p.length = i) : im.take i = p := by
  have := congrArg (List.take i) h
  rw [List.take_take, show min i (i + 1) = i by omega, ← hp, List.take_left] at this
  rw [← hp]; exact this

set_option maxRecDepth 20000 in
set_option maxHeartbeats 3200000 in
theorem sol_cl (w0 : World) (B bc bk bx bn bt bm : Nat) (a0 : Option Addr) (c0 : Nat) (c : List Int) (n K : Nat) (caps : Array Value) (St : List (List Int) → World → Prop) (tb : List Int → Bool)
    (hn : n ≤ 12) (hc4 : c.length ≤ 4) (hcb : ∀ x ∈ c, -9 ≤ x ∧ x ≤ 9) (hI : Ints w0 a0 c0 c) (hB0 : w0.heap.size ≤ B) (hbm : B ≤ bm)
    (HK : ∀ (args : Array Value) (w : World), (callFunc K args).run Try.prog w = .ok (.enter K args) w)
    (S2 : Hid (∀ L w j v, St L w → St L (w.setCell ⟨bm, j, none⟩ v))) (S3 : Hid (∀ L w, St L w → St L w.drew))
    (HT : Hid (∀ (L : List (List Int)) (x : List Int) (w : World), St L w → EnvQ w B bc bk bx bn bt bm a0 c0 c n K caps x → (∀ y ∈ x, 1 ≤ y ∧ y ≤ (n : Int)) → Below B w0 w → L.length ≤ 30000 →
      Calls Try.prog K (#[.slice (some ⟨bm, 0, none⟩) c.length c.length] ++ caps) w fun e w' => e = .returned (.bool (tb x)) ∧ St (L ++ [x]) w' ∧ KeptQ bc bk bx bn bt bm w w' ∧ Below B w0 w')) :
    ∀ (d i : Nat) (p xs : List Int) (s : Int) (L T : List (List Int)) (R : Bool) (w : World), i + d = c.length → xs.take i = p → s = lin c p → (∀ y ∈ p, 1 ≤ y ∧ y ≤ (n : Int)) → L ++ upTo tb (solL c n (fun _ _ => true) d p) = T → (solL c n (fun _ _ => true) d p).any tb = R → T.length ≤ 30000 →
    EnvQ w B bc bk bx bn bt bm a0 c0 c n K caps xs → St L w → Below B w0 w →
    Calls Try.prog 136 #[.int .i64 (i : Int), .int .i64 s, .pointer (some ⟨bc, 0, none⟩), .pointer (some ⟨bk, 0, none⟩), .pointer (some ⟨bx, 0, none⟩), .pointer (some ⟨bn, 0, none⟩), .pointer (some ⟨bt, 0, none⟩)] w fun e w' =>
      e = .returned (.bool R) ∧ ∃ xs', EnvQ w' B bc bk bx bn bt bm a0 c0 c n K caps xs' ∧ xs'.take i = p ∧ St T w' ∧ Below B w0 w' := by
  intro d
  induction d with
  | zero =>
    intro i p xs s L T R w hid htk hs hp hT hR hTl env st hbel
    have hlx := env.lx
    obtain rfl : i = c.length := by omega
    obtain rfl : xs = p := by rw [← htk, List.take_of_length_le (by omega)]
    have q1 := cell_of_one env.hc
    have q2 := cell_of_one env.hk
    have q3 := cell_of_one env.hx
    have HT1 := Lib.hid (HT.out L xs w st env hp hbel (by rw [← hT, List.length_append] at hTl; omega))
    have HTK := Lib.hid htk
    by_cases h0 : lin c xs = 0
    · simp only [solL, if_pos h0, upTo] at hT hR
      have e1 : T = L ++ [xs] := by rw [← hT]; split <;> rfl
      have e2 : R = tb xs := by rw [← hR]; simp
      subst e1
      subst e2
      rw [h0] at hs
      subst hs
      obtain ⟨r, hr⟩ : ∃ r, r = tb xs := ⟨_, rfl⟩
      rw [← hr] at HT1 ⊢
      have HE := Lib.hid env
      clear hid htk hp h0 hT hR hr env st hbel hI hcb hlx
      go_enter Try.func136, Try.ntmps136
      go_wp2_with fail
      refine HT1.out.mono ?_; rintro e w1 ⟨rfl, s1, k1, b1⟩
      go_wp2_with fail
      go_ret
      exact ⟨rfl, xs, HE.out.kept k1, HTK.out, s1, b1⟩
    · simp only [solL, if_neg h0, upTo, List.append_nil, List.any_nil] at hT hR
      subst hT
      subst hR
      have hs0 : (s == 0) = false := by rw [hs]; simpa using h0
      have HE := Lib.hid env
      clear hid htk hp h0 env hI hcb hlx hs HT1
      go_enter Try.func136, Try.ntmps136
      go_wp2_with fail
      go_ret
      exact ⟨rfl, xs, HE.out, HTK.out, st, hbel⟩
  | succ d ih =>
    intro i p xs s L T R w hid htk hs hp hT hR hTl env st hbel
    have IH := Lib.hid ih
    have hlx := env.lx
    have hic : i < c.length := by omega
    have hne : ((i : Int) == c.length) = false := by simp; omega
    have hpl : p.length = i := by rw [← htk, List.length_take]; omega
    have hlb := lin_bd c p hcb (fun y hy => by have := hp y hy; omega)
    have hlb2 : -432 ≤ s ∧ s ≤ 432 := by rw [hs]; omega
    have hci := hcb _ (List.getElem_mem hic)
    have hsn : ∀ y : Nat, lin c (p ++ [(y : Int)]) = s + y * c[i] := fun y => by
      rw [lin_snoc c p y (by omega), hs]
      simp only [hpl]
      rw [Int.mul_comm]
    have HSN := Lib.hid hsn
    have HP := Lib.hid hp
    have HC := Lib.hid hI.2.2.2.2
    have q0 := cell_of_one env.hc
    have HT0 : Hid (L ++ upTo tb (solF c n (fun _ _ => true) d p 1) = T) := Lib.hid (by rw [solF_one]; exact hT)
    have HR0 : Hid ((solF c n (fun _ _ => true) d p 1).any tb = R) := Lib.hid (by rw [solF_one]; exact hR)
    obtain ⟨ci, hci2⟩ : ∃ x, x = c[i] := ⟨_, rfl⟩
    rw [← hci2] at hci HSN
    have HCI := Lib.hid hci2
    have HPL := Lib.hid hpl
    have HTK := Lib.hid htk
    clear ih hs hp hT hR hlx hlb hsn hci2 hpl htk hcb hI
    go_enter Try.func136, Try.ntmps136
    go_wp2_with fail
    go_loopw [10] (fun vk wr => ∃ (y : Nat) (L : List (List Int)) (xs : List Int), 1 ≤ y ∧ y ≤ n + 1 ∧ vk = .int .i64 (y : Int) ∧ EnvQ wr B bc bk bx bn bt bm a0 c0 c n K caps xs ∧ Hid (xs.take i = p) ∧ St L wr ∧ Below B w0 wr ∧ Hid (L ++ upTo tb (solF c n (fun _ _ => true) d p y) = T) ∧ Hid ((solF c n (fun _ _ => true) d p y).any tb = R)) (fun vk _ => (n + 1 - intOf vk).toNat)
    case atStart => exact ⟨1, L, xs, by omega, by omega, rfl, env, HTK, st, hbel, HT0, HR0⟩
    case round =>
      clear env st hbel HT0 HR0 HTK q0
      obtain ⟨y, L, xs, hy1, hy2, rfl, env, HTK, st, hbel, HT1, HR1⟩ := hrel
      have q4 := cell_of_one env.hn
      by_cases hlt : y ≤ n
      · have q3 := cell_of_one env.hx
        have hlx := env.lx
        have hfr : wr.frozen? ⟨bm, i, none⟩ = false := env.ox.2.frozenAt i
        obtain ⟨v, hv⟩ : ∃ v, wr.cell? ⟨bm, i, none⟩ = some v := ⟨_, (env.ox.2.cellAt i (by omega)).trans (List.getElem?_eq_getElem (by rw [env.ox.2.1]; omega))⟩
        have env1 := env.setX i (y : Int) (wf_of (by omega) (by omega))
        have st1 := S2.out _ _ i (.int .i64 (y : Int)) st
        have hbel1 := hbel.setCell (p := ⟨bm, i, none⟩) hbm (.int .i64 (y : Int))
        have htk1 : (xs.set i (y : Int)).take (i + 1) = p ++ [(y : Int)] := by rw [take_set_q (by omega), HTK.out]
        have hp1 : ∀ z ∈ p ++ [(y : Int)], 1 ≤ z ∧ z ≤ (n : Int) := fun z hz => by
          rcases List.mem_append.1 hz with h | h
          · exact HP.out z h
          · simp at h; subst h; omega
        have hT2 := HT1.out
        have hR2 := HR1.out
        rw [solF_step hlt, if_pos rfl, upTo_app] at hT2
        rw [solF_step hlt, if_pos rfl, List.any_append] at hR2
        have hsum := HSN.out y
        have hprod : -108 ≤ (y : Int) * ci ∧ (y : Int) * ci ≤ 108 := by
          have h1 : (y : Int) * ci ≤ y * 9 := Int.mul_le_mul_of_nonneg_left hci.2 (by omega)
          have h2 : (y : Int) * (-9) ≤ y * ci := Int.mul_le_mul_of_nonneg_left hci.1 (by omega)
          omega
        obtain ⟨P, hP⟩ : ∃ P, P = solL c n (fun _ _ => true) d (p ++ [(y : Int)]) := ⟨_, rfl⟩
        obtain ⟨W, hW⟩ : ∃ W, W = wr.setCell ⟨bm, i, none⟩ (.int .i64 (y : Int)) := ⟨_, rfl⟩
        rw [← hW] at env1 st1 hbel1
        have qt := cell_of_one env1.ht
        have qc := cell_of_one env1.hc
        have CI := Lib.hid (IH.out (i + 1) (p ++ [(y : Int)]) _ (s + y * ci) L (L ++ upTo tb P) (P.any tb) W.drew (by omega) htk1 hsum.symm hp1 (by rw [hP]) (by rw [hP]) (by
          rw [← hP] at hT2
          rw [← hT2] at hTl
          split at hTl
          · exact hTl
          · rw [← List.append_assoc, List.length_append] at hTl; omega) env1.drew (S3.out _ _ st1) hbel1.drew)
        rw [show ((i + 1 : Nat) : Int) = (i : Int) + 1 by omega] at CI
        rw [← hP] at hT2 hR2
        rcases HC.out with hcs | ⟨b, off, rfl, hbB, hcell⟩
        · subst hcs; simp at hic
        have dc : W.cell? ⟨b, off + i, none⟩ = some (.int .i64 ci) := by rw [HCI.out]; exact (hbel1.cell (p := ⟨b, off + i, none⟩) (by show b < B; omega)).trans (hcell i hic)
        have hwi : IntKind.i64.wrap ((i : Int) + 1) = (i : Int) + 1 := by rw [IntKind.wrap_i64]; omega
        have hwp : IntKind.i64.wrap ((y : Int) * ci) = (y : Int) * ci := by rw [IntKind.wrap_i64]; omega
        have hws : IntKind.i64.wrap (s + (y : Int) * ci) = s + (y : Int) * ci := by rw [IntKind.wrap_i64]; omega
        have hii : (i : Int) < c.length := by omega
        have HBO := Lib.hid (show b < B by omega)
        have DC0 : Hid (w0.cell? ⟨b, off + i, none⟩ = some (.int .i64 ci)) := Lib.hid (by rw [HCI.out]; exact hcell i hic)
        have HW := Lib.hid hW
        obtain ⟨z, hz⟩ : ∃ z, z = (y : Int) * ci := ⟨_, rfl⟩
        rw [← hz] at CI hwp hws
        have hzp : (y : Int) * ci = z := hz.symm
        have HZ := Lib.hid hzp
        obtain ⟨q, hq⟩ : ∃ q, q = P.any tb := ⟨_, rfl⟩
        rw [← hq] at CI hT2 hR2
        have HT2 := Lib.hid hT2
        have HR2 := Lib.hid hR2
        clear env st hbel env1 st1 hbel1 htk1 hp1 hT2 hR2 hsum hP hW hz HT1 HR1 hlx hcell hq
        go_wp2_with fail
        rw [← HW.out]
        go_region_held3 (fun w' => w'.cell? ⟨bt, 0, none⟩ = some (.func (.func 136) #[] #[.pointer (some ⟨bc, 0, none⟩), .pointer (some ⟨bk, 0, none⟩), .pointer (some ⟨bx, 0, none⟩), .pointer (some ⟨bn, 0, none⟩), .pointer (some ⟨bt, 0, none⟩)]) ∧ w'.cell? ⟨bc, 0, none⟩ = some (.slice (some ⟨b, off, none⟩) c.length c0) ∧ w'.cell? ⟨b, off + i, none⟩ = some (.int .i64 ci)) (exact ⟨by assumption, by assumption, by assumption⟩) (first
            | (go_at_call 136; refine CI.out.mono ?_; rintro e w2 ⟨rfl, xs2, env2, HTK2, st2, hbel2⟩; have HTK2 := Lib.hid HTK2; have qt2 := cell_of_one env2.ht; have qc2 := cell_of_one env2.hc; have dc2 : w2.cell? ⟨b, off + i, none⟩ = some (.int .i64 ci) := (hbel2.cell (p := ⟨b, off + i, none⟩) HBO.out).trans DC0.out))
        have htk3 := take_back_q HTK2.out HPL.out
        have HTK3 := Lib.hid htk3
        clear htk3 HTK2 qt2 qc2 dc2 qt qc dc CI HW DC0 HBO hwi hwp hws
        cases q with
        | true =>
          have e1 : L ++ upTo tb P = T := by have := HT2.out; simpa using this
          have e2 : R = true := by have := HR2.out; simpa using this.symm
          subst e1
          subst e2
          clear HT2 HR2
          go_wp2_with fail
          go_ret
          exact ⟨rfl, xs2, env2, HTK3.out, st2, hbel2⟩
        | false =>
          have HT3 : Hid ((L ++ upTo tb P) ++ upTo tb (solF c n (fun _ _ => true) d p (y + 1)) = T) := Lib.hid (by have := HT2.out; simpa [List.append_assoc] using this)
          have HR3 : Hid ((solF c n (fun _ _ => true) d p (y + 1)).any tb = R) := Lib.hid (by have := HR2.out; simpa using this)
          clear HT2 HR2
          go_wp2_with fail
          go_roundw
          case rel => exact ⟨y + 1, L ++ upTo tb P, xs2, by omega, by omega, by go_num, env2, HTK3, st2, hbel2, HT3, HR3⟩
          case measure => simp [intOf]; omega
      · obtain rfl : y = n + 1 := by omega
        have e1 : L = T := by have := HT1.out; rw [solF_end (by omega)] at this; simpa [upTo] using this
        have e2 : R = false := by have := HR1.out; rw [solF_end (by omega)] at this; simpa using this.symm
        subst e1
        subst e2
        clear HT1 HR1 HC
        go_wp2_with fail
        go_ret
        exact ⟨rfl, xs, env, HTK.out, st, hbel⟩

set_option maxRecDepth 20000 in
set_option maxHeartbeats 3200000 in
theorem sol_any (w0 : World) (a0 : Option Addr) (c0 : Nat) (c : List Int) (n K : Nat) (caps : Array Value) (St : Nat → Nat → Nat → Nat → Nat → Nat → List (List Int) → World → Prop) (tb : List Int → Bool) (B : Nat) (w : World)
    (hn : n ≤ 12) (hc4 : c.length ≤ 4) (hcb : ∀ x ∈ c, -9 ≤ x ∧ x ≤ 9) (hI : Ints w0 a0 c0 c) (hB0 : w0.heap.size ≤ B) (hbel : Below B w0 w) (hBw : B ≤ w.heap.size)
    (HK : ∀ (args : Array Value) (w : World), (callFunc K args).run Try.prog w = .ok (.enter K args) w)
    (S1 : Hid (∀ bc bk bx bn bt bm w', w.heap.size ≤ bc → w.heap.size ≤ bk → w.heap.size ≤ bx → w.heap.size ≤ bn → w.heap.size ≤ bt → w.heap.size ≤ bm → Below w.heap.size w w' → St bc bk bx bn bt bm [] w'))
    (S2 : Hid (∀ bc bk bx bn bt bm L w j v, St bc bk bx bn bt bm L w → St bc bk bx bn bt bm L (w.setCell ⟨bm, j, none⟩ v))) (S3 : Hid (∀ bc bk bx bn bt bm L w, St bc bk bx bn bt bm L w → St bc bk bx bn bt bm L w.drew))
    (HT : Hid (∀ bc bk bx bn bt bm (L : List (List Int)) (x : List Int) (w : World), St bc bk bx bn bt bm L w → EnvQ w B bc bk bx bn bt bm a0 c0 c n K caps x → (∀ y ∈ x, 1 ≤ y ∧ y ≤ (n : Int)) → Below B w0 w → L.length ≤ 30000 →
      Calls Try.prog K (#[.slice (some ⟨bm, 0, none⟩) c.length c.length] ++ caps) w fun e w' => e = .returned (.bool (tb x)) ∧ St bc bk bx bn bt bm (L ++ [x]) w' ∧ KeptQ bc bk bx bn bt bm w w' ∧ Below B w0 w')) :
    Calls Try.prog 109 #[.slice a0 c.length c0, .int .i64 (n : Int), .func (.func K) #[] caps] w fun e w' =>
      e = .returned (.bool ((solL c n (fun _ _ => true) c.length []).any tb)) ∧ (∃ bc bk bx bn bt bm, St bc bk bx bn bt bm (upTo tb (solL c n (fun _ _ => true) c.length [])) w') ∧ Below B w0 w' := by
  have hI1 := hI.below hbel hB0
  obtain ⟨W1, hW1⟩ : ∃ W, W = ((w.alloc (.cells #[.slice a0 c.length c0] 24)).alloc (.cells #[.int .i64 (n : Int)] 3)).alloc (.cells #[.func (.func K) #[] caps] 54) := ⟨_, rfl⟩
  have hbc : W1.heap[w.heap.size]? = some (.cells #[.slice a0 c.length c0] 24 (0, 0)) := by rw [hW1]; exact one_alloc (one_alloc (new_at rfl))
  have hbn : W1.heap[w.heap.size + 1]? = some (.cells #[.int .i64 (n : Int)] 3 (0, 0)) := by rw [hW1]; exact one_alloc (new_at (by simp))
  have hbk : W1.heap[w.heap.size + 2]? = some (.cells #[.func (.func K) #[] caps] 54 (0, 0)) := by rw [hW1]; exact new_at (by simp)
  have hsz1 : W1.heap.size = w.heap.size + 3 := by rw [hW1]; simp
  have hbelW : Below w.heap.size w W1 := by rw [hW1]; exact (((Below.refl w.heap.size w).alloc (Nat.le_refl _) _).alloc (by simp) _).alloc (by simp; omega) _
  have HW := Lib.hid hW1
  have HSZ := Lib.hid hsz1
  have q1 := cell_of_one hbc
  have HBC := Lib.hid hbc
  have HBN := Lib.hid hbn
  have HBK := Lib.hid hbk
  clear hW1 hsz1 hbc hbn hbk
  go_enter Try.func109, Try.ntmps109
  go_wp2_with (at_make; rw [← HW.out]; refine wpList_mk rfl _ _ rfl W1.heap.size _ _ c.length rfl rfl rfl rfl (by omega) (Nat.le_refl _) ?_)
  intro w2 o2 hgr
  have b2 := hgr _ (Below.refl _ _)
  have lt2 := (o2.lt _ rfl).2
  simp only at lt2
  have hsz := HSZ.out
  have HSZ2 := Lib.hid (show W1.heap.size + 1 ≤ w2.heap.size by omega)
  have HBC2 := Lib.hid (one_below HBC.out b2 (Nat.le_refl _))
  have HBN2 := Lib.hid (one_below HBN.out b2 (Nat.le_refl _))
  have HBK2 := Lib.hid (one_below HBK.out b2 (Nat.le_refl _))
  have hbw2 : Below w.heap.size w w2 := hbelW.trans (b2.mono (by omega))
  have hbel2 : Below B w0 w2 := hbel.trans (hbw2.mono hBw)
  clear hgr q1
  rw [hsz] at o2
  have CI := Lib.hid (fun w' he hs hb => sol_cl w0 B w.heap.size (w.heap.size + 1 + 1) w2.heap.size (w.heap.size + 1) (w2.heap.size + 1) (w.heap.size + 3) a0 c0 c n K caps (St w.heap.size (w.heap.size + 2) w2.heap.size (w.heap.size + 1) (w2.heap.size + 1) (w.heap.size + 3)) tb hn hc4 hcb hI hB0 (by omega) HK (Lib.hid (S2.out _ _ _ _ _ _)) (Lib.hid (S3.out _ _ _ _ _ _)) (Lib.hid (HT.out _ _ _ _ _ _)) c.length 0 [] (List.replicate c.length 0) 0 [] _ _ w' (by omega) rfl (lin_nil c).symm (by simp) (List.nil_append _) rfl (Nat.le_trans (upTo_len tb _) (Nat.le_trans (solL_len c n _ c.length []) (pow_12 hn hc4))) he hs hb)
  go_wp2_with fail
  refine (CI.out _ ?env ?st ?bel).mono ?_
  case env =>
    have z1 := HSZ.out
    have z2 := HSZ2.out
    exact ⟨one_alloc (one_alloc HBC2.out), one_alloc (one_alloc HBK2.out), one_alloc (new_at rfl), one_alloc (one_alloc HBN2.out), new_at (by simp), ((o2.mono (by omega)).alloc _).alloc _, by simp, by omega⟩
  case st =>
    have z1 := HSZ.out
    have z2 := HSZ2.out
    exact S1.out _ _ _ _ _ _ _ (by omega) (by omega) (by omega) (by omega) (by omega) (by omega) ((hbw2.alloc (by omega) _).alloc (by simp; omega) _)
  case bel =>
    have z1 := HSZ.out
    have z2 := HSZ2.out
    exact (hbel2.alloc (by omega) _).alloc (by simp; omega) _
  rintro e w3 ⟨rfl, xs', -, -, st3, hbel3⟩
  go_wp2_with fail
  go_ret
  exact ⟨rfl, ⟨_, _, _, _, _, _, st3⟩, hbel3⟩
end Go.Proofs.Ytokpgbpdmfibjaa
