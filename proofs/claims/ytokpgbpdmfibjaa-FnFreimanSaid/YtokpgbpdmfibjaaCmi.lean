/-
Contract of the program's CountFreimanMaps and of its closure. Conditions: at most 2000000 orders.
-/
import Derived.Test.YtokpgbpdmfibjaaCml
import Derived.Test.YtokpgbpdmfibjaaFrm
import Derived.Test.YtokpgbpdmfibjaaMem
import Derived.Test.YtokpgbpdmfibjaaApp
import Derived.Laws.EntriesVeiled
namespace Go.Proofs.Ytokpgbpdmfibjaa
open Go.RowKit Go.ChangeShapes
set_option linter.unusedVariables false
set_option linter.unusedSimpArgs false

theorem grown_setAtN {w : World} (b k : Nat) (v : Value) : w.grownBy (w.setCell ⟨b, k, none⟩ v) (some b) :=
  ⟨rfl, rfl, rfl, by simp [World.setCell], fun k _ hne => Below.heap_setCell _ _ _ _ (fun e => hne (by rw [e]))⟩
theorem one_setN {w : World} {b : Nat} {u v : Value} {t : TypeId} (h : w.heap[b]? = some (.cells #[u] t (0, 0))) : (w.setCell ⟨b, 0, none⟩ v).heap[b]? = some (.cells #[v] t (0, 0)) := by
  have hlt := lt_of_block h
  have h' : w.heap[b] = .cells #[u] t (0, 0) := by simpa [Array.getElem?_eq_getElem hlt] using h
  show (w.heap.modify b _)[b]? = _
  rw [Array.getElem?_eq_getElem (by simpa using hlt), Array.getElem_modify_self, h']
  rfl
theorem take_set_succN {im : List Int} {i : Nat} (h : i < im.length) (x : Int) : (im.set i x).take (i + 1) = im.take i ++ [x] := by
  have h2 : i < (im.set i x).length := by simpa using h
  rw [List.take_succ_eq_append_getElem h2]
  have e : (im.set i x).take i = im.take i := by
    apply List.ext_getElem?
    intro j
    by_cases hj : j < i
    · rw [List.getElem?_take_of_lt hj, List.getElem?_take_of_lt hj, List.getElem?_set_ne (by omega)]
    · rw [List.getElem?_eq_none (by simp; omega), List.getElem?_eq_none (by simp; omega)]
  rw [e]
  simp
theorem take_backN {im p : List Int} {i : Nat} {x : Int} (h : im.take (i + 1) = p ++ [x]) (hp : p.length = i) : im.take i = p := by
  have := congrArg (List.take i) h
  rw [List.take_take, show min i (i + 1) = i by omega, ← hp, List.take_left] at this
  rw [← hp]; exact this
/-- What the closure has captured and writes: the box of m and its row, the box of n; the closure's own box. -/
structure EnvN (w : World) (B bl bg bh bm bn bt rm n c : Nat) (im : List Int) : Prop where
  hm : w.heap[bm]? = some (.cells #[.slice (some ⟨rm, 0, none⟩) n n] 24 (0, 0))
  hn : w.heap[bn]? = some (.cells #[.int .i64 (c : Int)] 3 (0, 0))
  ht : w.heap[bt]? = some (.cells #[.func (.func 127) #[] #[.pointer (some ⟨bl, 0, none⟩), .pointer (some ⟨bg, 0, none⟩), .pointer (some ⟨bh, 0, none⟩), .pointer (some ⟨bm, 0, none⟩), .pointer (some ⟨bn, 0, none⟩), .pointer (some ⟨bt, 0, none⟩)]] 79 (0, 0))
  oi : OwnI w B (some ⟨rm, 0, none⟩) n im
  li : im.length = n
  d : (bm ≠ bn ∧ bt ≠ bn ∧ rm ≠ bn) ∧ (bm ≠ rm ∧ bt ≠ rm) ∧ B ≤ bn
theorem EnvN.below {w w1 : World} {B bl bg bh bm bn bt rm n c : Nat} {im : List Int} (h : EnvN w B bl bg bh bm bn bt rm n c im) (hb : Below w.heap.size w w1) : EnvN w1 B bl bg bh bm bn bt rm n c im :=
  ⟨one_below h.hm hb (Nat.le_refl _), one_below h.hn hb (Nat.le_refl _), one_below h.ht hb (Nat.le_refl _), h.oi.below hb (Nat.le_refl _), h.li, h.d⟩
theorem EnvN.setI {w : World} {B bl bg bh bm bn bt rm n c : Nat} {im : List Int} (h : EnvN w B bl bg bh bm bn bt rm n c im) (j : Nat) (x : Int) (hx : (Lit.int .i64 x).wf = true) : EnvN (w.setCell ⟨rm, j, none⟩ (.int .i64 x)) B bl bg bh bm bn bt rm n c (im.set j x) := by
  have hg := grown_setAtN (w := w) rm j (.int .i64 x)
  obtain ⟨⟨d1, d2, d3⟩, ⟨d4, d5⟩, d6⟩ := h.d
  exact ⟨one_grown h.hm hg (by simpa using d4), one_grown h.hn hg (by simpa using fun e => d3 e.symm), one_grown h.ht hg (by simpa using d5), h.oi.set j x hx, by rw [List.length_set]; exact h.li, h.d⟩
theorem EnvN.setN {w : World} {B bl bg bh bm bn bt rm n c : Nat} {im : List Int} (h : EnvN w B bl bg bh bm bn bt rm n c im) (k : Nat) : EnvN (w.setCell ⟨bn, 0, none⟩ (.int .i64 (k : Int))) B bl bg bh bm bn bt rm n k im := by
  have hg := grown_setAtN (w := w) bn 0 (.int .i64 (k : Int))
  obtain ⟨⟨d1, d2, d3⟩, ⟨d4, d5⟩, d6⟩ := h.d
  exact ⟨one_grown h.hm hg (by simpa using d1), one_setN h.hn, one_grown h.ht hg (by simpa using d2), h.oi.grown hg (fun x hx e => by cases hx; simp at e; exact d3 e.symm), h.li, h.d⟩

set_option maxRecDepth 20000 in
set_option maxHeartbeats 6400000 in
theorem cfm_cl (w0 : World) (ag : Option Addr) (cg : Nat) (os : List Int) (ah : Option Addr) (ch : Nat) (hs : List Int) (al : Option Addr) (cl : Nat) (l : List Int) (n bl bg bh bm bn bt rm : Nat) (H0 : Ints w0 ag cg os) (H1 : Ints w0 ah ch hs) (HL : Ints w0 al cl l) (hbl : w0.cell? ⟨bl, 0, none⟩ = some (.slice al n cl)) (hbg : w0.cell? ⟨bg, 0, none⟩ = some (.slice ag os.length cg)) (hbh : w0.cell? ⟨bh, 0, none⟩ = some (.slice ah hs.length ch)) (zl : bl < w0.heap.size) (zg : bg < w0.heap.size) (zh : bh < w0.heap.size)
    (hhl : hs.length ≤ 2000000) (hg0 : grpB os = true) (hh0 : grpB hs = true) (hl4 : n ≤ 4) (hln : l.length = n) (hle : ∀ x ∈ l, 0 ≤ x ∧ x < 1000) (hN : gn hs ≤ 8) :
    ∀ (d i : Nat) (im p : List Int) (c : Nat) (w : World), i + d = n → im.take i = p → EnvN w w0.heap.size bl bg bh bm bn bt rm n c im → Below w0.heap.size w0 w → (∀ x ∈ p, 0 ≤ x ∧ x < (gn hs : Int)) → c + cmG os hs l (gn hs) d p ≤ 10000 →
    Calls Try.prog 127 #[.int .i64 (i : Int), .pointer (some ⟨bl, 0, none⟩), .pointer (some ⟨bg, 0, none⟩), .pointer (some ⟨bh, 0, none⟩), .pointer (some ⟨bm, 0, none⟩), .pointer (some ⟨bn, 0, none⟩), .pointer (some ⟨bt, 0, none⟩)] w fun e w' =>
      e = .returned (.tuple #[]) ∧ ∃ im', EnvN w' w0.heap.size bl bg bh bm bn bt rm n (c + cmG os hs l (gn hs) d p) im' ∧ im'.take i = p ∧ Below w0.heap.size w0 w' := by
  have CO := Lib.hid (fun w h => orderOf_impl ah ch hs w h hhl)
  rw [show ordV hs = gord hs by simp [ordV, hh0], ← (grp_gn hh0).2.2.2.1] at CO
  have KE := Lib.hid (fun am cm (m : List Int) w h0 h1 k0 k1 hm hme => keeps_impl ag cg os ah ch hs al cl l am cm m n w h0 h1 k0 k1 hg0 hh0 hln hm (by omega) hle hme)
  have hcl := Lib.hid hbl
  have hcg := Lib.hid hbg
  have hch := Lib.hid hbh
  have HLN := Lib.hid hln
  obtain ⟨N, hNN⟩ : ∃ n, n = gn hs := ⟨_, rfl⟩
  rw [← hNN] at CO hN ⊢
  have hwN : IntKind.i64.wrap (N : Int) = N := wrap_in (by omega) (by omega)
  clear hbl hbg hbh hg0 hh0 hln hle hNN
  intro d
  induction d with
  | zero =>
    intro i im p c w hid htk env hbel hp hc
    have himl := env.li
    obtain rfl : i = n := by omega
    have htk' : im = p := by rw [← htk, List.take_of_length_le (by omega)]
    subst htk'
    have HCM : Hid (cmG os hs l N 0 im = if kpB os hs l im i = true then 1 else 0) := Lib.hid (by rw [← HLN.out]; rfl)
    have ql := (hbel.cell (p := ⟨bl, 0, none⟩) zl).trans hcl.out
    have qg := (hbel.cell (p := ⟨bg, 0, none⟩) zg).trans hcg.out
    have qh := (hbel.cell (p := ⟨bh, 0, none⟩) zh).trans hch.out
    have qm := cell_of_one env.hm
    have KE1 := Lib.hid (KE.out _ _ im w (H0.below hbel (Nat.le_refl _)) (H1.below hbel (Nat.le_refl _)) (HL.below hbel (Nat.le_refl _)) (by have := env.oi.ints; exact this) himl (fun x hx => by have := hp x hx; omega))
    have HE := Lib.hid env
    have HB := Lib.hid hbel
    have HTK := Lib.hid htk
    have hsz := hbel.size
    cases hk : kpB os hs l im i with
    | false =>
      rw [hk] at KE1 HCM
      have e0 : cmG os hs l N 0 im = 0 := by rw [HCM.out]; rfl
      rw [e0]
      clear htk hid hp hc himl env hbel hk e0 HCM KE
      go_enter Try.func127, Try.ntmps127
      go_wp2_with fail
      refine KE1.out.mono ?_; rintro e w1 ⟨rfl, b1⟩
      go_wp2_with fail
      (try simp only [Exit.inBlock, Exit.then])
      refine bodyPost_ret (results_none rfl _ _ _) rfl ?_
      exact ⟨rfl, im, HE.out.below b1, HTK.out, HB.out.trans (b1.mono hsz)⟩
    | true =>
      rw [hk] at KE1 HCM
      have e0 : cmG os hs l N 0 im = 1 := by rw [HCM.out]; rfl
      rw [e0] at hc ⊢
      clear htk hid hp himl env hbel hk e0 HCM KE
      go_enter Try.func127, Try.ntmps127
      go_wp2_with fail
      refine KE1.out.mono ?_; rintro e w1 ⟨rfl, b1⟩
      have env1 := HE.out.below b1
      have qn := cell_of_one env1.hn
      have fn := free_of_one env1.hn
      have env2 := Lib.hid (env1.setN (c + 1))
      have hb2 := Lib.hid ((HB.out.trans (b1.mono hsz)).setCell (p := ⟨bn, 0, none⟩) env1.d.2.2 (.int .i64 ((c + 1 : Nat) : Int)))
      have hcw : IntKind.i64.wrap ((c : Int) + 1) = (c : Int) + 1 := by rw [IntKind.wrap_i64]; omega
      rw [show ((c + 1 : Nat) : Int) = (c : Int) + 1 by omega] at env2 hb2
      clear env1 b1 hc
      go_wp2_with fail
      (try simp only [Exit.inBlock, Exit.then])
      refine bodyPost_ret (results_none rfl _ _ _) rfl ?_
      exact ⟨rfl, im, env2.out, HTK.out, hb2.out⟩
  | succ d ih =>
    intro i im p c w hid htk env hbel hp hc
    have hlp : p.length = i := by rw [← htk]; have := env.li; simp; omega
    obtain ⟨F, hF⟩ : ∃ F : Nat → Nat, F = fun (x : Nat) => cmG os hs l N d (p ++ [(x : Int)]) := ⟨_, rfl⟩
    have hFe : cmG os hs l N (d + 1) p = ns F N := by rw [hF]; rfl
    rw [hFe] at hc ⊢
    have HFX : Hid (∀ x, F x = cmG os hs l N d (p ++ [(x : Int)])) := Lib.hid (fun x => by rw [hF])
    have HFM : Hid (∀ x, x < N → ns F x + F x ≤ ns F N) := Lib.hid (fun x hx => by
      have : ∀ k, x + 1 ≤ k → ns F (x + 1) ≤ ns F k := by
        intro k hk
        induction k with
        | zero => omega
        | succ k ih =>
          by_cases e : x + 1 = k + 1
          · rw [e]; exact Nat.le_refl _
          · exact Nat.le_trans (ih (by omega)) (Nat.le_add_right _ _)
      exact this N hx)
    have HLP := Lib.hid hlp
    have HID := Lib.hid hid
    have IH := Lib.hid ih
    have HP := Lib.hid hp
    have HTK := Lib.hid htk
    have HC := Lib.hid hc
    have ql := (hbel.cell (p := ⟨bl, 0, none⟩) zl).trans hcl.out
    have qh := (hbel.cell (p := ⟨bh, 0, none⟩) zh).trans hch.out
    have h1 := H1.below hbel (Nat.le_refl _)
    have hin : ((i : Int) == (n : Int)) = false := by simp; omega
    have hio : i < n := by omega
    have hio2 : (i : Int) < n := by omega
    have hsz := hbel.size
    clear ih htk hp hlp hid hF hFe hc
    go_enter Try.func127, Try.ntmps127
    go_wp2_with fail
    refine (CO.out _ h1).mono ?_; rintro e w1 ⟨rfl, b1⟩
    have env1 := env.below b1
    have hbel1 := hbel.trans (b1.mono hsz)
    clear env hbel b1 ql qh h1 hsz
    go_wp2_with fail
    go_loopw [22] (fun vx wr => ∃ (x : Nat) (im : List Int) (k : Nat), x ≤ N ∧ vx = .int .i64 (x : Int) ∧ EnvN wr w0.heap.size bl bg bh bm bn bt rm n k im ∧ Hid (k = c + ns F x) ∧ Hid (im.take i = p) ∧ Below w0.heap.size w0 wr) (fun x _ => N - (intOf x).toNat)
    case atStart => exact ⟨0, im, c, by omega, rfl, env1, Lib.hid rfl, HTK, hbel1⟩
    case round =>
      clear env1 hbel1 HTK
      obtain ⟨x, im, k, hx, rfl, env, HK, HTK, hbel⟩ := hrel
      by_cases hlt : x < N
      · have hxn : (x : Int) < N := by omega
        have qm := cell_of_one env.hm
        have hii : i < im.length := by rw [env.li]; exact hio
        have g1 := env.oi.cell i hii
        have gf := env.oi.frozen i
        have env2 := env.setI i (x : Int) (wf_of (by omega) (by omega))
        have hbm : w0.heap.size ≤ rm := (env.oi.lt _ rfl).1
        have hbel2 := hbel.setCell (p := ⟨rm, i, none⟩) hbm (.int .i64 (x : Int))
        have q5 := cell_of_one env2.ht
        have htk2 := take_set_succN hii (x : Int)
        rw [HTK.out] at htk2
        have hfx := HFX.out x
        have hle : k + cmG os hs l N d (p ++ [(x : Int)]) ≤ 10000 := by
          have h1 := HFM.out x hlt
          have h2 := HC.out
          have h3 := HK.out
          rw [← hfx]; omega
        have CI := Lib.hid (IH.out (i + 1) (im.set i (x : Int)) (p ++ [(x : Int)]) k _ (by have := HID.out; omega) htk2 env2 hbel2 (fun y hy => by
          rcases List.mem_append.1 hy with hy | hy
          · exact HP.out y hy
          · simp at hy; subst hy; omega) hle)
        rw [show ((i + 1 : Nat) : Int) = (i : Int) + 1 by omega, ← hfx] at CI
        have hi1 : IntKind.i64.wrap ((i : Int) + 1) = (i : Int) + 1 := wrap_in (by omega) (by omega)
        clear htk2 env2 hbel2 env hbel HTK hfx hle
        go_wp2_with fail
        refine CI.out.mono ?_; rintro e w5 ⟨rfl, im5, env5, htk5, hbel5⟩
        have HTK5 := Lib.hid (take_backN htk5 HLP.out)
        clear CI qm g1 gf q5 htk5
        go_wp2_with fail
        go_roundw
        case rel => exact ⟨x + 1, im5, _, by omega, by go_num, env5, Lib.hid (by rw [HK.out, Nat.add_assoc]; rfl), HTK5, hbel5⟩
        case measure => simp [intOf]; omega
      · obtain rfl : x = N := by omega
        obtain rfl : k = c + ns F x := HK.out
        go_wp2_with fail
        go_end0
        exact ⟨rfl, im, env, HTK.out, hbel⟩
end Go.Proofs.Ytokpgbpdmfibjaa
