/-
Contracts of the counting of colorings: l24Count (a function that calls itself) and the closure of CountColorings. Conditions: at most 3 colors, at most 14 numbers.
-/
import Derived.Test.YtbidkjhgodkamaaFit
import Derived.Test.YtbidkjhgodkamaaApp
namespace Go.Proofs.Ytbidkjhgodkamaa
open Go.RowKit Go.ChangeShapes

def sumN (g : Nat → Int) : Nat → Int
  | 0 => 0
  | m + 1 => sumN g m + g m
theorem sumN_bd {g : Nat → Int} {b : Int} : ∀ m : Nat, (∀ i, i < m → 0 ≤ g i ∧ g i ≤ b) → 0 ≤ sumN g m ∧ sumN g m ≤ m * b
  | 0, _ => by simp [sumN]
  | m + 1, h => by
    have ih := sumN_bd (g := g) (b := b) m (fun i hi => h i (by omega))
    have h2 := h m (by omega)
    have e : ((m + 1 : Nat) : Int) * b = (m : Int) * b + b := by rw [Int.natCast_add, Int.add_mul]; simp
    rw [e]
    unfold sumN
    omega

theorem sumN_mono {g : Nat → Int} (h : ∀ i, 0 ≤ g i) (m : Nat) : ∀ k, m ≤ k → sumN g m ≤ sumN g k
  | 0, hk => by
    obtain rfl : m = 0 := by omega
    exact Int.le_refl _
  | k + 1, hk => by
    by_cases e : m = k + 1
    · subst e; exact Int.le_refl _
    · have ih := sumN_mono h m k (by omega)
      have := h k
      have e2 : sumN g (k + 1) = sumN g k + g k := rfl
      omega

/-- How many ways to go on from c by f more numbers in k colors. -/
noncomputable def ccF (k : Nat) : Nat → List Int → Int
  | 0, _ => 1
  | f + 1, c => sumN (fun x => if fitB (c ++ [(x : Int)]) = true then ccF k f (c ++ [(x : Int)]) else 0) k
theorem ccF_bd (k : Nat) (hk : k ≤ 3) : ∀ f c, 0 ≤ ccF k f c ∧ ccF k f c ≤ 3 ^ f
  | 0, c => by simp [ccF]
  | f + 1, c => by
    unfold ccF
    have hp : (0 : Int) < 3 ^ f := Int.pow_pos (by omega)
    have h := sumN_bd (g := fun x => if fitB (c ++ [(x : Int)]) = true then ccF k f (c ++ [(x : Int)]) else 0) (b := 3 ^ f) k (fun i _ => by
      have := ccF_bd k hk f (c ++ [(i : Int)])
      split <;> omega)
    have h2 : (k : Int) * 3 ^ f ≤ 3 * 3 ^ f := Int.mul_le_mul_of_nonneg_right (by omega) (by omega)
    rw [Int.pow_succ, Int.mul_comm (3 ^ f) 3]
    omega
theorem pow_bd {f : Nat} (h : f ≤ 14) : (3 : Int) ^ f ≤ 4782969 := by
  have : ∀ f : Nat, f < 15 → (3 : Int) ^ f ≤ 4782969 := by decide
  exact this f (by omega)
theorem ccF_bd14 {k f : Nat} (hk : k ≤ 3) (hf : f ≤ 14) (c : List Int) : 0 ≤ ccF k f c ∧ ccF k f c ≤ 4782969 := by
  have h1 := ccF_bd k hk f c
  have h2 := pow_bd hf
  omega

set_option maxHeartbeats 1600000 in
theorem l24Count_any (k : Nat) (n : Nat) (hk : k ≤ 3) (hn : n ≤ 14) : ∀ (f : Nat) (c : List Int) (a : Option Addr) (cap : Nat) (w : World), c.length + f = n → Ints w a cap c →
    Calls Try.prog 241 #[.slice a c.length cap, .int .i64 k, .int .i64 n] w fun e w' => e = .returned (.int .i64 (ccF k f c)) ∧ Below w.heap.size w w' := by
  intro f
  induction f with
  | zero =>
    intro c a cap w hf h0
    have hlen : ((c.length : Int) == n) = true := by simp; omega
    have hF := Lib.hid hf
    clear hf
    go_enter Try.func241, Try.ntmps241
    go_wp2_with fail
    go_ret
    exact ⟨rfl, Below.refl _ _⟩
  | succ f ih =>
    intro c a cap w hf h0
    have hlen : ((c.length : Int) == n) = false := by simp; omega
    have hF := Lib.hid hf
    have hcl : c.length ≤ 13 := by omega
    have hf14 : f ≤ 14 := by omega
    have IH := Lib.hid ih
    clear hf ih
    obtain ⟨g, hg⟩ : ∃ g : Nat → Int, g = fun x : Nat => if fitB (c ++ [(x : Int)]) = true then ccF k f (c ++ [(x : Int)]) else 0 := ⟨_, rfl⟩
    have e : ccF k (f + 1) c = sumN g k := by rw [hg]; rfl
    rw [e]
    have hb : ∀ i, 0 ≤ g i ∧ g i ≤ 4782969 := fun i => by
      rw [hg]
      show 0 ≤ (if fitB (c ++ [(i : Int)]) = true then ccF k f (c ++ [(i : Int)]) else 0) ∧ (if fitB (c ++ [(i : Int)]) = true then ccF k f (c ++ [(i : Int)]) else 0) ≤ 4782969
      have := ccF_bd14 hk hf14 (c ++ [(i : Int)])
      split <;> omega
    have hs : ∀ m, m ≤ 3 → 0 ≤ sumN g m ∧ sumN g m ≤ 20000000 := fun m hm => by
      have h1 := sumN_bd (g := g) (b := 4782969) m (fun i _ => hb i)
      omega
    have HG := Lib.hid hg
    have HB := Lib.hid hb
    have HS := Lib.hid hs
    clear e hg hb hs
    go_enter Try.func241, Try.ntmps241
    go_wp2_with fail
    go_loopw [7, 8] (fun s x wr => ∃ j : Nat, j ≤ k ∧ x = .int .i64 j ∧ s = .int .i64 (sumN g j) ∧ Below w.heap.size w wr) (fun _ x _ => k - (intOf x).toNat)
    case atStart => exact ⟨0, by omega, rfl, rfl, Below.refl _ _⟩
    case round =>
      obtain ⟨j, hj, rfl, rfl, hbel⟩ := hrel
      by_cases hlt : j < k
      · obtain ⟨s1, s2⟩ := HS.out j (by omega)
        obtain ⟨g1, g2⟩ := HB.out j
        have hstep : sumN g (j + 1) = sumN g j + g j := rfl
        have HST := Lib.hid hstep
        have hgj : g j = if fitB (c ++ [(j : Int)]) = true then ccF k f (c ++ [(j : Int)]) else 0 := by rw [HG.out]
        clear hstep
        obtain ⟨sj, hsj⟩ : ∃ s, s = sumN g j := ⟨_, rfl⟩
        rw [← hsj] at s1 s2 HST ⊢
        obtain ⟨gj, hgj'⟩ : ∃ s, s = g j := ⟨_, rfl⟩
        rw [← hgj'] at g1 g2 HST hgj
        clear hsj hgj'
        have h1 := (h0.below hbel (Nat.le_refl _)).alloc (.cells #[] 3)
        have hm := OwnI.made wr wr.heap.size (Nat.le_refl _)
        have hb1 := (Below.refl wr.heap.size wr).alloc (Nat.le_refl _) (.cells #[] 3)
        have hl0 : ([] : List Int).length ≤ 2000000 := by simp
        have hl1 : c.length ≤ 2000000 := by omega
        have hsz : wr.heap.size ≤ (wr.alloc (.cells #[] 3)).heap.size := by simp
        go_wp2_with (at_builtin; refine wpList_appAll rfl (.tmp 19) (.tmp 20) rfl wr.heap.size _ _ [] _ _ c rfl rfl hm h1 hl0 hl1 hsz ?_)
        intro a1 c1 w1 o1 hb2
        have hb3 := hb2 _ hb1
        have hwj : (Lit.int .i64 (j : Int)).wf = true := wf_of (by omega) (by omega)
        clear hb1 hb2 hm h1 hl0
        go_wp2_with (at_builtin; refine wpList_app rfl (.tmp 21) (.tmp 23) rfl wr.heap.size _ _ _ _ rfl rfl o1 hwj hl1 hb3.size ?_)
        intro a2 c2 w2 o2 hb4
        have hb5 := hb4 _ hb3
        have hlen2 : (c ++ [(j : Int)]).length = c.length + 1 := by simp
        have hint2 := o2.ints
        obtain ⟨d, hd⟩ : ∃ d, d = c ++ [(j : Int)] := ⟨_, rfl⟩
        rw [← hd] at hint2 hgj hlen2
        rw [← hlen2]
        have HL2 := Lib.hid hlen2
        have HD := Lib.hid hd
        have hB2 := nx hbel hb5
        have hd60 : d.length ≤ 60 := by omega
        clear hb4 hb3 o1 o2 hd hlen2 hwj hl1
        go_wp2_with fail
        have CB := Lib.hid (bad_any a2 c2 d w2 hint2 hd60)
        cases hfit : fitB d with
        | true =>
          rw [hfit] at CB
          rw [hfit, if_pos rfl] at hgj
          have HGJ := Lib.hid hgj
          clear hgj hfit
          refine CB.out.mono ?_; rintro e w3 ⟨rfl, b3⟩
          go_wp2_with fail
          refine (IH.out d a2 c2 w3 (by rw [HL2.out]; have := hF.out; omega) (hint2.below b3 (Nat.le_refl _))).mono ?_
          rw [← HGJ.out]
          rintro e w4 ⟨rfl, b4⟩
          go_wp2_with fail
          go_roundw
          case rel => exact ⟨j + 1, by omega, by go_num, by rw [HST.out], nx (nx hB2 b3) b4⟩
          case measure => simp [intOf]; omega
        | false =>
          rw [hfit] at CB
          rw [hfit, if_neg (by simp)] at hgj
          subst hgj
          clear hfit
          refine CB.out.mono ?_; rintro e w3 ⟨rfl, b3⟩
          go_wp2_with fail
          go_roundw
          case rel => exact ⟨j + 1, by omega, by go_num, by rw [HST.out]; simp, nx hB2 b3⟩
          case measure => simp [intOf]; omega
      · obtain rfl : j = k := by omega
        go_wp2_with fail
        go_ret
        exact ⟨rfl, hbel⟩

/-- What the closure has captured: the boxes of n, count, k and of itself. -/
structure EnvC (w : World) (bn bc bk bt : Nat) (n k cnt : Int) : Prop where
  hn : w.heap[bn]? = some (.cells #[.int .i64 n] 3 (0, 0))
  hc : w.heap[bc]? = some (.cells #[.int .i64 cnt] 3 (0, 0))
  hk : w.heap[bk]? = some (.cells #[.int .i64 k] 3 (0, 0))
  ht : w.heap[bt]? = some (.cells #[.func (.func 238) #[] #[.pointer (some ⟨bn, 0, none⟩), .pointer (some ⟨bc, 0, none⟩), .pointer (some ⟨bk, 0, none⟩), .pointer (some ⟨bt, 0, none⟩)]] 118 (0, 0))
  d1 : bn ≠ bc
  d2 : bk ≠ bc
  d3 : bt ≠ bc
theorem EnvC.below {w w1 : World} {bn bc bk bt : Nat} {n k cnt : Int} (h : EnvC w bn bc bk bt n k cnt) (hb : Below w.heap.size w w1) : EnvC w1 bn bc bk bt n k cnt :=
  ⟨one_below h.hn hb (Nat.le_refl _), one_below h.hc hb (Nat.le_refl _), one_below h.hk hb (Nat.le_refl _), one_below h.ht hb (Nat.le_refl _), h.d1, h.d2, h.d3⟩
theorem EnvC.set {w : World} {bn bc bk bt : Nat} {n k cnt : Int} (h : EnvC w bn bc bk bt n k cnt) (v : Int) : EnvC (w.setCell ⟨bc, 0, none⟩ (.int .i64 v)) bn bc bk bt n k v :=
  ⟨one_grown h.hn (grown_set _ _) (by simpa using h.d1), one_setCell h.hc, one_grown h.hk (grown_set _ _) (by simpa using h.d2), one_grown h.ht (grown_set _ _) (by simpa using h.d3), h.d1, h.d2, h.d3⟩
theorem EnvC.lt {w : World} {bn bc bk bt : Nat} {n k cnt : Int} (h : EnvC w bn bc bk bt n k cnt) : bc < w.heap.size := lt_of_block h.hc

set_option maxHeartbeats 1600000 in
theorem ccl_any (k : Nat) (n : Nat) (hk : k ≤ 3) (hn : n ≤ 14) (bn bc bk bt : Nat) : ∀ (f : Nat) (c : List Int) (a : Option Addr) (cap : Nat) (w : World) (cnt : Int), c.length + f = n → Ints w a cap c → (∀ x, a = some x → x.block ≠ bc) →
    EnvC w bn bc bk bt n k cnt → 0 ≤ cnt → cnt + ccF k f c ≤ 20000000 →
    Calls Try.prog 238 #[.slice a c.length cap, .pointer (some ⟨bn, 0, none⟩), .pointer (some ⟨bc, 0, none⟩), .pointer (some ⟨bk, 0, none⟩), .pointer (some ⟨bt, 0, none⟩)] w fun e w' =>
      e = .returned (.tuple #[]) ∧ EnvC w' bn bc bk bt n k (cnt + ccF k f c) ∧ w.grownBy w' (some bc) := by
  intro f
  induction f with
  | zero =>
    intro c a cap w cnt hf h0 hne env h1 h2
    have hlen : ((c.length : Int) == n) = true := by simp; omega
    have q1 := cell_of_one env.hn
    have q2 := cell_of_one env.hc
    have f2 := free_of_one env.hc
    have hcc : ccF k 0 c = 1 := rfl
    rw [hcc] at h2 ⊢
    have ENV := Lib.hid (env.set (cnt + 1))
    have HF := Lib.hid hf
    clear hf hcc env
    go_enter Try.func238, Try.ntmps238
    go_wp2_with fail
    refine bodyPost_ret (results_none rfl _ _ _) rfl ?_
    exact ⟨rfl, ENV.out, grown_set _ _⟩
  | succ f ih =>
    intro c a cap w cnt hf h0 hne env h1 h2
    have hlen : ((c.length : Int) == n) = false := by simp; omega
    have hF := Lib.hid hf
    have hcl : c.length ≤ 13 := by omega
    have hf14 : f ≤ 14 := by omega
    have IH := Lib.hid ih
    clear hf ih
    obtain ⟨g, hg⟩ : ∃ g : Nat → Int, g = fun x : Nat => if fitB (c ++ [(x : Int)]) = true then ccF k f (c ++ [(x : Int)]) else 0 := ⟨_, rfl⟩
    have e : ccF k (f + 1) c = sumN g k := by rw [hg]; rfl
    rw [e] at h2 ⊢
    have hb : ∀ i, 0 ≤ g i ∧ g i ≤ 4782969 := fun i => by
      rw [hg]
      show 0 ≤ (if fitB (c ++ [(i : Int)]) = true then ccF k f (c ++ [(i : Int)]) else 0) ∧ (if fitB (c ++ [(i : Int)]) = true then ccF k f (c ++ [(i : Int)]) else 0) ≤ 4782969
      have := ccF_bd14 hk hf14 (c ++ [(i : Int)])
      split <;> omega
    have hs : ∀ m, m ≤ k → 0 ≤ sumN g m ∧ sumN g m ≤ sumN g k := fun m hm => by
      exact ⟨(sumN_bd (g := g) (b := 4782969) m (fun i _ => hb i)).1, sumN_mono (fun i => (hb i).1) m k hm⟩
    have HG := Lib.hid hg
    have HB := Lib.hid hb
    have HS := Lib.hid hs
    have HNE := Lib.hid hne
    have q1 := cell_of_one env.hn
    have q3 := cell_of_one env.hk
    clear e hg hb hs hne
    go_enter Try.func238, Try.ntmps238
    go_wp2_with fail
    go_loopw [15] (fun x wr => ∃ j : Nat, j ≤ k ∧ x = .int .i64 j ∧ EnvC wr bn bc bk bt n k (cnt + sumN g j) ∧ w.grownBy wr (some bc)) (fun x _ => k - (intOf x).toNat)
    case atStart => exact ⟨0, by omega, rfl, by simpa [sumN] using env, World.grownBy.refl _ _⟩
    case round =>
      obtain ⟨j, hj, rfl, env', hgr⟩ := hrel
      clear q1 q3
      by_cases hlt : j < k
      · obtain ⟨s1, s2⟩ := HS.out j (by omega)
        obtain ⟨s3, s4⟩ := HS.out (j + 1) (by omega)
        obtain ⟨g1, g2⟩ := HB.out j
        have hstep : sumN g (j + 1) = sumN g j + g j := rfl
        rw [hstep] at s3 s4
        have HST := Lib.hid hstep
        have hgj : g j = if fitB (c ++ [(j : Int)]) = true then ccF k f (c ++ [(j : Int)]) else 0 := by rw [HG.out]
        clear hstep
        obtain ⟨sj, hsj⟩ : ∃ s, s = sumN g j := ⟨_, rfl⟩
        obtain ⟨sk, hsk⟩ : ∃ s, s = sumN g k := ⟨_, rfl⟩
        rw [← hsj] at s1 s2 s3 s4 HST env'
        rw [← hsk] at s2 s4 h2
        obtain ⟨gj, hgj'⟩ : ∃ s, s = g j := ⟨_, rfl⟩
        rw [← hgj'] at g1 g2 s3 s4 HST hgj
        clear hsj hgj' hsk
        have h0r := h0.grown hgr (fun x hx e => HNE.out x hx (by simpa using e.symm))
        have hl1 : c.length ≤ 2000000 := by omega
        go_wp2_with fail
        refine (copyInts_any a cap c wr h0r hl1).mono ?_; rintro e w1 ⟨a1, c1, rfl, o1, b1⟩
        have hwj : (Lit.int .i64 (j : Int)).wf = true := wf_of (by omega) (by omega)
        clear h0r
        go_wp2_with (at_builtin; refine wpList_app rfl _ _ rfl wr.heap.size _ _ _ _ rfl rfl o1 hwj hl1 b1.size ?_)
        intro a2 c2 w2 o2 hb4
        have hb5 := hb4 _ b1
        have hlen2 : (c ++ [(j : Int)]).length = c.length + 1 := by simp
        have hint2 := o2.ints
        have hne2 : ∀ x, a2 = some x → x.block ≠ bc := fun x hx => by have := (o2.lt x hx).1; have := env'.lt; omega
        obtain ⟨d, hd⟩ : ∃ d, d = c ++ [(j : Int)] := ⟨_, rfl⟩
        rw [← hd] at hint2 hgj hlen2
        rw [← hlen2]
        have HL2 := Lib.hid hlen2
        have HD := Lib.hid hd
        have hgr2 := grown_below hgr hb5
        have env2 := env'.below hb5
        have hd60 : d.length ≤ 60 := by omega
        clear hb4 hb5 b1 o1 o2 hd hlen2 hwj hl1 env'
        go_wp2_with fail
        have CB := Lib.hid (fits_any a2 c2 d w2 hint2 hd60)
        cases hfit : fitB d with
        | true =>
          rw [hfit] at CB
          rw [hfit, if_pos rfl] at hgj
          have HGJ := Lib.hid hgj
          clear hgj hfit
          refine CB.out.mono ?_; rintro e w3 ⟨rfl, b3⟩
          have env3 := env2.below b3
          have q4 := cell_of_one env3.ht
          have hint3 := hint2.below b3 (Nat.le_refl _)
          go_wp2_with fail
          refine (IH.out d a2 c2 w3 (cnt + sj) (by rw [HL2.out]; have := hF.out; omega) hint3 hne2 env3 (by omega) (by rw [← HGJ.out]; omega)).mono ?_
          rw [← HGJ.out]
          rintro e w4 ⟨rfl, env4, gr4⟩
          have hgr4 := grown_trans (grown_below hgr2 b3) gr4
          clear env3 env2 q4
          go_wp2_with fail
          go_roundw
          case rel => exact ⟨j + 1, by omega, by go_num, by rw [HST.out, ← Int.add_assoc]; exact env4, hgr4⟩
          case measure => simp [intOf]; omega
        | false =>
          rw [hfit] at CB
          rw [hfit, if_neg (by simp)] at hgj
          subst hgj
          clear hfit
          refine CB.out.mono ?_; rintro e w3 ⟨rfl, b3⟩
          have env3 := env2.below b3
          have hgr3 := grown_below hgr2 b3
          go_wp2_with fail
          go_roundw
          case rel => exact ⟨j + 1, by omega, by go_num, by rw [HST.out, Int.add_zero]; exact env3, hgr3⟩
          case measure => simp [intOf]; omega
      · obtain rfl : j = k := by omega
        go_wp2_with fail
        go_end0
        exact ⟨rfl, env', hgr⟩
end Go.Proofs.Ytbidkjhgodkamaa
