/-
Contract of the program's search through the sets with a property: its closure and the function itself, for every property that is handed in. Conditions: groups, properties that are told by a contract at sets of the group.
-/
import Derived.Test.YtbidkjhgodkamaaSrch
import Derived.Test.YtbidkjhgodkamaaAlg
import Derived.Test.YtbidkjhgodkamaaApp
import Derived.Deep.QuietTactic
import Derived.BigQuiet
import Derived.Laws.EntriesVeiled
namespace Go.Proofs.Ytbidkjhgodkamaa
open Go.RowKit Go.ChangeShapes

/-- What the closure has captured: the boxes of count, size, best, g, is and of itself. -/
structure EnvS (w : World) (bc bs bb bg bi bt K gp : Nat) (a0 : Option Addr) (n0 c0 : Nat) (s : FS) : Prop where
  hc : w.heap[bc]? = some (.cells #[.int .i64 s.count] 3 (0, 0))
  hs : w.heap[bs]? = some (.cells #[.int .i64 s.size] 3 (0, 0))
  hb : w.heap[bb]? = some (.cells #[.int .i64 (s.best : Int)] 3 (0, 0))
  hg : w.heap[bg]? = some (.cells #[.slice a0 n0 c0] 26 (0, 0))
  hi : w.heap[bi]? = some (.cells #[.func (.func K) #[] #[.pointer (some ⟨gp, 0, none⟩)]] 96 (0, 0))
  ht : w.heap[bt]? = some (.cells #[.func (.func 261) #[] #[.pointer (some ⟨bc, 0, none⟩), .pointer (some ⟨bs, 0, none⟩), .pointer (some ⟨bb, 0, none⟩), .pointer (some ⟨bg, 0, none⟩), .pointer (some ⟨bi, 0, none⟩), .pointer (some ⟨bt, 0, none⟩)]] 129 (0, 0))
  n1 : bc ≠ bs ∧ bc ≠ bb ∧ bs ≠ bb
  n2 : bg ≠ bc ∧ bg ≠ bs ∧ bg ≠ bb
  n3 : bi ≠ bc ∧ bi ≠ bs ∧ bi ≠ bb
  n4 : bt ≠ bc ∧ bt ≠ bs ∧ bt ≠ bb
variable {w w1 : World} {bc bs bb bg bi bt K gp : Nat} {a0 : Option Addr} {n0 c0 : Nat} {s : FS}
theorem EnvS.below (h : EnvS w bc bs bb bg bi bt K gp a0 n0 c0 s) (hb : Below w.heap.size w w1) : EnvS w1 bc bs bb bg bi bt K gp a0 n0 c0 s :=
  ⟨one_below h.hc hb (Nat.le_refl _), one_below h.hs hb (Nat.le_refl _), one_below h.hb hb (Nat.le_refl _), one_below h.hg hb (Nat.le_refl _), one_below h.hi hb (Nat.le_refl _), one_below h.ht hb (Nat.le_refl _), h.n1, h.n2, h.n3, h.n4⟩
theorem one_other {b c : Nat} {o : Obj} {v : Value} (h : w.heap[b]? = some o) (hne : b ≠ c) : (w.setCell ⟨c, 0, none⟩ v).heap[b]? = some o := by
  rw [Below.heap_setCell _ _ _ _ hne]; exact h
theorem EnvS.setC (h : EnvS w bc bs bb bg bi bt K gp a0 n0 c0 s) (v : Int) : EnvS (w.setCell ⟨bc, 0, none⟩ (.int .i64 v)) bc bs bb bg bi bt K gp a0 n0 c0 ⟨s.best, s.size, v⟩ :=
  ⟨one_setCell h.hc, one_other h.hs (Ne.symm h.n1.1), one_other h.hb (Ne.symm h.n1.2.1), one_other h.hg h.n2.1, one_other h.hi h.n3.1, one_other h.ht h.n4.1, h.n1, h.n2, h.n3, h.n4⟩
theorem EnvS.setS (h : EnvS w bc bs bb bg bi bt K gp a0 n0 c0 s) (v : Int) : EnvS (w.setCell ⟨bs, 0, none⟩ (.int .i64 v)) bc bs bb bg bi bt K gp a0 n0 c0 ⟨s.best, v, s.count⟩ :=
  ⟨one_other h.hc h.n1.1, one_setCell h.hs, one_other h.hb (Ne.symm h.n1.2.2), one_other h.hg h.n2.2.1, one_other h.hi h.n3.2.1, one_other h.ht h.n4.2.1, h.n1, h.n2, h.n3, h.n4⟩
theorem EnvS.setB (h : EnvS w bc bs bb bg bi bt K gp a0 n0 c0 s) (v : Nat) : EnvS (w.setCell ⟨bb, 0, none⟩ (.int .i64 (v : Int))) bc bs bb bg bi bt K gp a0 n0 c0 ⟨v, s.size, s.count⟩ :=
  ⟨one_other h.hc h.n1.2.1, one_other h.hs h.n1.2.2, one_setCell h.hb, one_other h.hg h.n2.2.2, one_other h.hi h.n3.2.2, one_other h.ht h.n4.2.2, h.n1, h.n2, h.n3, h.n4⟩

set_option maxRecDepth 20000 in
set_option maxHeartbeats 3200000 in
theorem first_cl (P : Nat → Bool) (N : Nat) (os : List Int) (w0 : World) (bc bs bb bg bi bt K gp : Nat) (a0 : Option Addr) (c0 : Nat)
    (hN : N ≤ 24) (hB : w0.heap.size ≤ bc ∧ w0.heap.size ≤ bs ∧ w0.heap.size ≤ bb)
    (CO : Hid (∀ w, Below w0.heap.size w0 w → Calls Try.prog 170 #[.agg #[.slice a0 os.length c0]] w fun e w' => e = .returned (.int .i64 (N : Int)) ∧ Below w.heap.size w w'))
    (HK : ∀ (args : Array Value) (w : World), (callFunc K args).run Try.prog w = .ok (.enter K args) w)
    (CP : Hid (∀ (b : Nat) w, b < 2 ^ N → Below w0.heap.size w0 w → Calls Try.prog K #[.int .i64 (b : Int), .pointer (some ⟨gp, 0, none⟩)] w fun e w' => e = .returned (.bool (P b)) ∧ Below w.heap.size w w')) :
    ∀ (f fr a : Nat) (n : Int) (s r : FS) (w : World), N - fr = f → fsGo P N (N - fr) a n (s.hit a n) = r → fr ≤ N → a < 2 ^ fr → 0 ≤ n → n ≤ fr → -1 ≤ s.size → s.size ≤ 24 → 0 ≤ s.count → s.count + (2 ^ (N - fr) : Nat) ≤ 33554432 →
    EnvS w bc bs bb bg bi bt K gp a0 os.length c0 s → Below w0.heap.size w0 w →
    Calls Try.prog 261 #[.int .i64 (a : Int), .int .i64 n, .int .i64 (fr : Int), .pointer (some ⟨bc, 0, none⟩), .pointer (some ⟨bs, 0, none⟩), .pointer (some ⟨bb, 0, none⟩), .pointer (some ⟨bg, 0, none⟩), .pointer (some ⟨bi, 0, none⟩), .pointer (some ⟨bt, 0, none⟩)] w fun e w' =>
      e = .returned (.tuple #[]) ∧ EnvS w' bc bs bb bg bi bt K gp a0 os.length c0 r ∧ Below w0.heap.size w0 w' := by
  intro f
  induction f using Nat.strongRecOn with
  | ind f ih =>
  intro fr a n s r w hf hr hfn ha hn0 hn1 hs0 hs1 hct hcb env hbel
  obtain ⟨hB1, hB2, hB3⟩ := hB
  obtain ⟨m1, m2, m3⟩ := env.n1
  have IH := Lib.hid ih
  have HF := Lib.hid hf
  have HR := Lib.hid hr
  have HCB := Lib.hid hcb
  have HA := Lib.hid ha
  have hp := Nat.two_pow_pos (N - fr)
  have hcs : s.count ≤ 33554432 := by omega
  have q1 := cell_of_one env.hc
  have q2 := free_of_one env.hc
  have q3 := cell_of_one env.hs
  have q4 := free_of_one env.hs
  have q5 := cell_of_one env.hb
  have q6 := free_of_one env.hb
  have m4 := Ne.symm m1
  have m5 := Ne.symm m2
  have m6 := Ne.symm m3
  have HE : Hid (EnvS (if s.size < n then ((w.setCell ⟨bc, 0, none⟩ (.int .i64 (s.count + 1))).setCell ⟨bb, 0, none⟩ (.int .i64 (a : Int))).setCell ⟨bs, 0, none⟩ (.int .i64 n) else w.setCell ⟨bc, 0, none⟩ (.int .i64 (s.count + 1))) bc bs bb bg bi bt K gp a0 os.length c0 (s.hit a n)) := by
    apply Lib.hid
    unfold FS.hit
    split
    · exact ((env.setC (s.count + 1)).setB a).setS n
    · exact env.setC (s.count + 1)
  have HBB : Hid (Below w0.heap.size w0 (if s.size < n then ((w.setCell ⟨bc, 0, none⟩ (.int .i64 (s.count + 1))).setCell ⟨bb, 0, none⟩ (.int .i64 (a : Int))).setCell ⟨bs, 0, none⟩ (.int .i64 n) else w.setCell ⟨bc, 0, none⟩ (.int .i64 (s.count + 1)))) := by
    apply Lib.hid
    split
    · exact ((hbel.setCell hB1 _).setCell hB3 _).setCell hB2 _
    · exact hbel.setCell hB1 _
  have HSZ := Lib.hid (FS.hit_sz s a n 24 hs0 hs1 hn0 (by omega))
  clear ih hf hr hcb env hbel hp ha
  by_cases hlt : s.size < n
  all_goals
    first | rw [if_pos hlt] at HE HBB | rw [if_neg hlt] at HE HBB
    go_enter Try.func261, Try.ntmps261
    go_wp2_with fail
    go_loopw [12] (fun x wr => ∃ (d : Nat) (t : FS), d + fr ≤ N ∧ x = .int .i64 ((N - d : Nat) : Int) ∧ EnvS wr bc bs bb bg bi bt K gp a0 os.length c0 t ∧ Below w0.heap.size w0 wr ∧ Hid (fsGo P N d a n t = r) ∧ -1 ≤ t.size ∧ t.size ≤ 24 ∧ 0 ≤ t.count ∧ Hid (t.count + (2 ^ d : Nat) ≤ 33554433)) (fun x _ => (N - intOf x).toNat)
    case atStart => exact ⟨N - fr, s.hit a n, by omega, by rw [show N - (N - fr) = fr by omega], HE.out, HBB.out, HR.out, HSZ.out.1, HSZ.out.2, by show 0 ≤ s.count + 1; omega, Lib.hid (by show s.count + 1 + _ ≤ _; have := HCB.out; omega)⟩
    case round =>
      obtain ⟨d, t, hd, rfl, env, hbel, HG, t1, t2, t3, HT⟩ := hrel
      clear q1 q2 q3 q4 q5 q6 HE HBB HSZ
      have q7 := cell_of_one env.hg
      have CO1 := Lib.hid (CO.out _ hbel)
      match d, hd, HG, HT with
      | 0, hd, HG, HT =>
        have e : t = r := HG.out
        subst e
        rw [Nat.sub_zero]
        clear HG HR HT
        go_wp2_with fail
        refine CO1.out.mono ?_; rintro e w1 ⟨rfl, b1⟩
        have env1 := env.below b1
        have hbel1 := hbel.trans (b1.mono hbel.size)
        clear env hbel b1 q7
        go_wp2_with fail
        go_end0
        exact ⟨rfl, env1, hbel1⟩
      | d + 1, hd, HG, HT =>
        obtain ⟨x, hx⟩ : ∃ x, x = N - (d + 1) := ⟨_, rfl⟩
        have hxn : x + d + 1 ≤ N ∧ N ≤ x + d + 1 := by omega
        have hfx : fr ≤ x := by omega
        have hax : a < 2 ^ x := Nat.lt_of_lt_of_le HA.out (Nat.pow_le_pow_right (by decide) hfx)
        have hbx := or_bit_lt hax
        have hbN : a ||| 2 ^ x < 2 ^ N := Nat.lt_of_lt_of_le hbx (Nat.pow_le_pow_right (by decide) (by omega))
        have h24 : (2 : Nat) ^ N ≤ 16777216 := by
          have := Nat.pow_le_pow_right (n := 2) (by decide) hN
          simpa using this
        have h24x : (2 : Nat) ^ x ≤ 16777216 := by
          have := Nat.pow_le_pow_right (n := 2) (by decide) (show x ≤ 24 by omega)
          simpa using this
        have hgo : fsGo P N d a n (if P (a ||| 2 ^ x) = true then fsGo P N d (a ||| 2 ^ x) (n + 1) (t.hit (a ||| 2 ^ x) (n + 1)) else t) = r := by rw [hx]; exact HG.out
        rw [← hx]
        have hlt : (x : Int) < N := by omega
        have hw : IntKind.i64.wrap (2 ^ x) = ((2 ^ x : Nat) : Int) := by rw [pow_wrap62 x (by omega)]; simp
        have hor : bits .or .i64 (a : Int) ((2 ^ x : Nat) : Int) = ((a ||| 2 ^ x : Nat) : Int) := or_nat _ _ (by omega) (by omega)
        obtain ⟨p, hpp⟩ : ∃ p, p = 2 ^ d := ⟨_, rfl⟩
        have hp2 : t.count + (2 * p : Nat) ≤ 33554433 := by rw [hpp]; have := HT.out; rw [Nat.pow_succ] at this; omega
        have hp0 : 0 < p := by rw [hpp]; exact Nat.two_pow_pos d
        have hbx' : a ||| 2 ^ x < 2 ^ (x + 1) := hbx
        obtain ⟨T, hT⟩ : ∃ T, T = 2 ^ x := ⟨_, rfl⟩
        rw [← hT] at hgo hbN hw hor hbx' h24x
        obtain ⟨b, hb⟩ : ∃ b, b = a ||| T := ⟨_, rfl⟩
        rw [← hb] at hgo hbN hor hbx'
        have hb24 : b < 16777216 := by omega
        have HP := Lib.hid (fun w h => CP.out b w hbN h)
        have HBX := Lib.hid hbx'
        have HPP := Lib.hid hpp
        have hxN : x + 1 ≤ N := by omega
        clear hx HG HT hax hbx hbN h24 hpp hbx' hT hb
        go_wp2_with fail
        refine CO1.out.mono ?_; rintro e w1 ⟨rfl, b1⟩
        have env1 := env.below b1
        have hbel1 := hbel.trans (b1.mono hbel.size)
        have q8 := cell_of_one env1.hi
        have CP1 := Lib.hid (HP.out _ hbel1)
        clear env hbel b1 q7 CO1
        cases hP : P b with
        | false =>
          rw [hP] at hgo CP1
          have HGO : Hid (fsGo P N d a n t = r) := Lib.hid hgo
          clear hgo hP
          go_wp2_with fail
          refine CP1.out.mono ?_; rintro e w2 ⟨rfl, b2⟩
          have env2 := env1.below b2
          have hbel2 := hbel1.trans (b2.mono hbel1.size)
          clear env1 hbel1 b2 q8 CP1
          go_wp2_with fail
          go_roundw
          case rel => exact ⟨d, t, by omega, by rw [show N - d = x + 1 by omega]; go_num, env2, hbel2, HGO, t1, t2, t3, Lib.hid (by rw [← HPP.out]; omega)⟩
          case measure => simp [intOf]; omega
        | true =>
          rw [hP] at hgo CP1
          have hgo' : fsGo P N d a n (fsGo P N d b (n + 1) (t.hit b (n + 1))) = r := hgo
          obtain ⟨y, hy⟩ : ∃ y, y = fsGo P N d b (n + 1) (t.hit b (n + 1)) := ⟨_, rfl⟩
          obtain ⟨g1, g2⟩ := FS.hit_sz t b (n + 1) 24 t1 t2 (by omega) (by omega)
          obtain ⟨g3, g4⟩ := fsGo_sz P N d b (n + 1) 24 _ g1 g2 (by omega) (by omega)
          obtain ⟨g5, g6⟩ := fsGo_cbd P N d b (n + 1) (t.hit b (n + 1))
          have g7 : (t.hit b (n + 1)).count = t.count + 1 := rfl
          rw [← hy] at hgo' g3 g4 g5 g6
          rw [g7, ← HPP.out] at g6
          rw [g7] at g5
          have HGO := Lib.hid hgo'
          have HY := Lib.hid hy
          have y3 : 0 ≤ y.count := by omega
          have y4 : y.count + p ≤ 33554433 := by omega
          clear hgo hgo' hP hy g1 g2 g5 g6 g7
          go_wp2_with fail
          refine CP1.out.mono ?_; rintro e w2 ⟨rfl, b2⟩
          have env2 := env1.below b2
          have hbel2 := hbel1.trans (b2.mono hbel1.size)
          have q9 := cell_of_one env2.ht
          have CI := Lib.hid (IH.out d (by have := HF.out; omega) (x + 1) b (n + 1) t y w2 (by omega) (by rw [show N - (x + 1) = d by omega]; exact HY.out.symm) (by omega) HBX.out (by omega) (by omega) t1 t2 t3 (by rw [show N - (x + 1) = d by omega, ← HPP.out]; omega) env2 hbel2)
          rw [show ((x + 1 : Nat) : Int) = (x : Int) + 1 by omega] at CI
          clear env1 hbel1 b2 q8 CP1
          go_wp2_with fail
          refine CI.out.mono ?_; rintro e w3 ⟨rfl, env3, hbel3⟩
          clear env2 hbel2 q9 CI
          go_wp2_with fail
          go_roundw
          case rel => exact ⟨d, y, by omega, by rw [show N - d = x + 1 by omega]; go_num, env3, hbel3, HGO, g3, g4, y3, Lib.hid (by rw [← HPP.out]; omega)⟩
          case measure => simp [intOf]; omega

set_option maxHeartbeats 800000 in
theorem first_any (P : Nat → Bool) (N : Nat) (os : List Int) (w : World) (K gp : Nat) (a0 : Option Addr) (c0 : Nat) (hN : N ≤ 24)
    (CO : Hid (∀ w', Below w.heap.size w w' → Calls Try.prog 170 #[.agg #[.slice a0 os.length c0]] w' fun e w1 => e = .returned (.int .i64 (N : Int)) ∧ Below w'.heap.size w' w1))
    (HK : ∀ (args : Array Value) (w : World), (callFunc K args).run Try.prog w = .ok (.enter K args) w)
    (CP : Hid (∀ (b : Nat) w', b < 2 ^ N → Below w.heap.size w w' → Calls Try.prog K #[.int .i64 (b : Int), .pointer (some ⟨gp, 0, none⟩)] w' fun e w1 => e = .returned (.bool (P b)) ∧ Below w'.heap.size w' w1)) :
    Calls Try.prog 171 #[.agg #[.slice a0 os.length c0], .func (.func K) #[] #[.pointer (some ⟨gp, 0, none⟩)]] w fun e w' =>
      e = .returned (.tuple #[.int .i64 ((fsGo P N N 0 0 ⟨0, 0, 1⟩).best : Int), .int .i64 (fsGo P N N 0 0 ⟨0, 0, 1⟩).count]) ∧ Below w.heap.size w w' := by
  obtain ⟨r, hr⟩ : ∃ r, r = fsGo P N N 0 0 ⟨0, 0, 1⟩ := ⟨_, rfl⟩
  rw [← hr]
  have CL := Lib.hid (first_cl P N os w (w.heap.size + 1 + 1 + 1 + 1) (w.heap.size + 1 + 1 + 1) (w.heap.size + 1 + 1) w.heap.size (w.heap.size + 1) (w.heap.size + 1 + 1 + 1 + 1 + 1) K gp a0 c0 hN ⟨by omega, by omega, by omega⟩ CO HK CP N 0 0 0 ⟨0, -1, 0⟩ r)
  have HR : Hid (fsGo P N (N - 0) 0 0 (FS.hit ⟨0, -1, 0⟩ 0 0) = r) := Lib.hid (by rw [hr]; rfl)
  have h24 : (2 : Nat) ^ N ≤ 16777216 := by
    have := Nat.pow_le_pow_right (n := 2) (by decide) hN
    simpa using this
  have HN := Lib.hid (show (0 : Int) + (2 ^ (N - 0) : Nat) ≤ 33554432 by rw [Nat.sub_zero]; omega)
  clear hr CO CP HK h24
  go_enter Try.func171, Try.ntmps171
  go_wp2_with fail
  refine (CL.out _ (by omega) HR.out (by omega) (by simp) (by omega) (by omega) (by simp) (by simp) (by simp) HN.out ?env ?bel).mono ?_
  case env => exact ⟨one_alloc (new_at (by simp)), one_alloc (one_alloc (new_at (by simp))), one_alloc (one_alloc (one_alloc (new_at (by simp)))), one_alloc (one_alloc (one_alloc (one_alloc (one_alloc (new_at rfl))))), one_alloc (one_alloc (one_alloc (one_alloc (new_at (by simp))))), new_at (by simp), by omega, by omega, by omega, by omega⟩
  case bel => exact ((((((Below.refl _ _).alloc (Nat.le_refl _) _).alloc (by simp) _).alloc (by simp; omega) _).alloc (by simp; omega) _).alloc (by simp; omega) _).alloc (by simp; omega) _
  rintro e w1 ⟨rfl, env1, hb⟩
  have q1 := cell_of_one env1.hb
  have q2 := cell_of_one env1.hc
  clear env1 CL HR HN
  go_wp2_with fail
  go_quiet (fail)
  go_wp2_with fail
  go_ret2
  exact ⟨rfl, below_drewN hb _⟩
end Go.Proofs.Ytbidkjhgodkamaa
