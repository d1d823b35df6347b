/-
Contracts of the search for the longest list without progressions: l23List and the closure of LongestFreeList, both as one plain search. Conditions: n at most 14.
-/
import Derived.Test.YtbidkjhgodkamaaLng
import Derived.Test.YtbidkjhgodkamaaApl
namespace Go.Proofs.Ytbidkjhgodkamaa
open Go.RowKit Go.ChangeShapes

/-- The numbers n - d, .., n - 1 tried behind l, b the best so far. -/
noncomputable def lfGo (n : Nat) : Nat → List Int → List Int → List Int
  | 0, _, b => b
  | d + 1, l, b => lfGo n d l (if apB (l ++ [((n - (d + 1) : Nat) : Int)]) = true then upd b (lfGo n d (l ++ [((n - (d + 1) : Nat) : Int)]) (l ++ [((n - (d + 1) : Nat) : Int)])) else b)
theorem upd_len (b y : List Int) : (upd b y).length ≤ max b.length y.length := by
  unfold upd; split <;> omega
theorem lfGo_len (n : Nat) : ∀ d l b, (lfGo n d l b).length ≤ max b.length (l.length + d)
  | 0, _, b => by unfold lfGo; omega
  | d + 1, l, b => by
    unfold lfGo
    have h2 := lfGo_len n d (l ++ [((n - (d + 1) : Nat) : Int)]) (l ++ [((n - (d + 1) : Nat) : Int)])
    have h3 := upd_len b (lfGo n d (l ++ [((n - (d + 1) : Nat) : Int)]) (l ++ [((n - (d + 1) : Nat) : Int)]))
    rw [List.length_append, List.length_singleton] at h2
    obtain ⟨z, hz⟩ : ∃ z, z = (if apB (l ++ [((n - (d + 1) : Nat) : Int)]) = true then upd b (lfGo n d (l ++ [((n - (d + 1) : Nat) : Int)]) (l ++ [((n - (d + 1) : Nat) : Int)])) else b) := ⟨_, rfl⟩
    have hzl : z.length ≤ max b.length (l.length + (d + 1)) := by rw [hz]; split <;> omega
    rw [← hz]
    have h1 := lfGo_len n d l z
    omega
theorem upd_old {b y : List Int} (h : y.length ≤ b.length) : upd b y = b := by
  unfold upd; rw [if_neg (by omega)]

set_option maxHeartbeats 3200000 in
theorem l23List_any (n : Nat) (hn : n ≤ 14) (B : Nat) : ∀ (f from_ : Nat) (c r : List Int) (a : Option Addr) (cap : Nat) (w : World), lfGo n (n - from_) c c = r → n - from_ ≤ f → from_ ≤ n → c.length ≤ from_ → B ≤ w.heap.size → OwnI w B a cap c →
    Calls Try.prog 245 #[.int .i64 n, .slice a c.length cap, .int .i64 from_] w fun e w' => ∃ a' cap', e = .returned (.slice a' r.length cap') ∧ OwnI w' B a' cap' r ∧ Below w.heap.size w w' := by
  intro f
  induction f with
  | zero =>
    intro fr c r a cap w hr hf hfn hc hB h0
    obtain rfl : fr = n := by omega
    have e : r = c := by rw [← hr, Nat.sub_self]; rfl
    subst e
    clear hr
    go_enter Try.func245, Try.ntmps245
    go_wp2_with fail
    refine wp_loop_once ?_
    go_wp2_with fail
    go_ret
    exact ⟨_, _, rfl, h0, Below.refl _ _⟩
  | succ f ih =>
    intro fr c r a cap w hr hf hfn hcf hB h0
    have HR := Lib.hid hr
    have IH := Lib.hid ih
    clear hr ih
    go_enter Try.func245, Try.ntmps245
    go_wp2_with fail
    go_loopw [7, 8] (fun v x wr => ∃ (d : Nat) (b : List Int) (ab : Option Addr) (cb : Nat), d + fr ≤ n ∧ x = .int .i64 ((n - d : Nat) : Int) ∧ v = .slice ab b.length cb ∧ OwnI wr B ab cb b ∧ b.length ≤ 60 ∧ Hid (lfGo n d c b = r) ∧ Below w.heap.size w wr) (fun _ x _ => (n - intOf x).toNat)
    case atStart => exact ⟨n - fr, c, a, cap, by omega, by rw [show n - (n - fr) = fr by omega], rfl, h0, by omega, HR.out, Below.refl _ _⟩
    case round =>
      obtain ⟨d, b, ab, cb, hd, rfl, rfl, hb, hbl, HG, hbel⟩ := hrel
      match d, hd, HG with
      | 0, hd, HG =>
        have e : b = r := HG.out
        subst e
        rw [Nat.sub_zero]
        clear HG HR
        go_wp2_with fail
        go_ret
        exact ⟨_, _, rfl, hb, hbel⟩
      | d + 1, hd, HG =>
        obtain ⟨x, hx⟩ : ∃ x, x = n - (d + 1) := ⟨_, rfl⟩
        have hxn : x + d + 1 ≤ n ∧ n ≤ x + d + 1 := by omega
        have hgo : lfGo n d c (if apB (c ++ [((n - (d + 1) : Nat) : Int)]) = true then upd b (lfGo n d (c ++ [((n - (d + 1) : Nat) : Int)]) (c ++ [((n - (d + 1) : Nat) : Int)])) else b) = r := HG.out
        rw [← hx] at hgo ⊢
        have hfx : fr ≤ x := by omega
        have hlt : (x : Int) < n := by omega
        have h1 := (h0.below hbel (Nat.le_refl _)).ints.alloc (.cells #[] 3)
        have hm := OwnI.made wr wr.heap.size (Nat.le_refl _)
        have hb1 := (Below.refl wr.heap.size wr).alloc (Nat.le_refl _) (.cells #[] 3)
        have hl0 : ([] : List Int).length ≤ 2000000 := by simp
        have hl1 : c.length ≤ 2000000 := by omega
        have hsz : wr.heap.size ≤ (wr.alloc (.cells #[] 3)).heap.size := by simp
        clear hx HG
        go_wp2_with (at_builtin; refine wpList_appAll rfl (.tmp 18) (.tmp 19) rfl wr.heap.size _ _ [] _ _ c rfl rfl hm h1 hl0 hl1 hsz ?_)
        intro a1 c1 w1 o1 hb2
        have hb3 := hb2 _ hb1
        have hwj : (Lit.int .i64 (x : Int)).wf = true := wf_of (by omega) (by omega)
        clear hb1 hb2 hm h1 hl0
        go_wp2_with (at_builtin; refine wpList_app rfl (.tmp 20) (.tmp 22) rfl wr.heap.size _ _ _ _ rfl rfl o1 hwj hl1 hb3.size ?_)
        intro a2 c2 w2 o2 hb4
        have hb5 := hb4 _ hb3
        have hlen2 : (c ++ [(x : Int)]).length = c.length + 1 := by simp
        have hBr : B ≤ wr.heap.size := Nat.le_trans hB hbel.size
        have hint2 := o2.mono hBr
        have hB2' : B ≤ w2.heap.size := Nat.le_trans hBr hb5.size
        have hlen3 := lfGo_len n d (c ++ [(x : Int)]) (c ++ [(x : Int)])
        obtain ⟨e, he⟩ : ∃ e, e = c ++ [(x : Int)] := ⟨_, rfl⟩
        rw [← he] at hint2 hlen2 hgo hlen3
        rw [← hlen2]
        have HL2 := Lib.hid hlen2
        have he14 : e.length ≤ x + 1 := by omega
        have hec : e.length ≤ c.length + 1 ∧ c.length + 1 ≤ e.length := by omega
        have hB2 := nx hbel hb5
        have hbb := hb.below hb5 (Nat.le_refl _)
        clear hb4 hb3 o1 o2 he hlen2 hwj hl1 hb
        by_cases hpr : (e.length : Int) + n - x - 1 ≤ b.length
        · have hskip : lfGo n d c b = r := by
            rw [← hgo]
            congr 1
            split
            · rw [upd_old (by omega)]
            · rfl
          have HS := Lib.hid hskip
          clear hskip hgo hlen3
          go_wp2_with fail
          go_roundw
          case rel => exact ⟨d, b, ab, cb, by omega, by rw [show n - d = x + 1 by omega]; go_num, rfl, hbb, hbl, HS, hB2⟩
          case measure => simp [intOf]; omega
        · have CB := Lib.hid (apl_spec a2 c2 e w2 hint2.ints (by omega))
          cases hok : apB e with
          | true =>
            rw [hok] at CB
            rw [hok, if_pos rfl] at hgo
            obtain ⟨y, hy⟩ : ∃ y, y = lfGo n d e e := ⟨_, rfl⟩
            rw [← hy] at hgo hlen3
            have HGO := Lib.hid hgo
            have HY := Lib.hid hy
            clear hgo hy hok
            go_wp2_with fail
            refine CB.out.mono ?_; rintro e' w3 ⟨rfl, b3⟩
            have hint3 := hint2.below b3 (Nat.le_refl _)
            have hbb3 := hbb.below b3 (Nat.le_refl _)
            have CI := Lib.hid (IH.out (x + 1) e y a2 c2 w3 (by rw [show n - (x + 1) = d by omega]; exact HY.out.symm) (by omega) (by omega) (by omega) (Nat.le_trans hB2' b3.size) hint3)
            rw [show ((x + 1 : Nat) : Int) = (x : Int) + 1 by omega] at CI
            clear hint2 hint3 hbb CB
            go_wp2_with fail
            refine CI.out.mono ?_; rintro e' w4 ⟨a4, c4, rfl, i4, b4⟩
            have hbb4 := hbb3.below b4 (Nat.le_refl _)
            have hB4 := nx (nx hB2 b3) b4
            by_cases hlen : b.length < y.length
            · have e : upd b y = y := by rw [upd, if_pos hlen]
              rw [e] at HGO
              have hy60 : y.length ≤ 60 := by omega
              clear e hbb4 hbb3 b3 b4 CI hlen3
              go_wp2_with fail
              go_roundw
              case rel => exact ⟨d, y, a4, c4, by omega, by rw [show n - d = x + 1 by omega]; go_num, rfl, i4, hy60, HGO, hB4⟩
              case measure => simp [intOf]; omega
            · have e : upd b y = b := by rw [upd, if_neg hlen]
              rw [e] at HGO
              clear e i4 hbb3 b3 b4 CI hlen3
              go_wp2_with fail
              go_roundw
              case rel => exact ⟨d, b, ab, cb, by omega, by rw [show n - d = x + 1 by omega]; go_num, rfl, hbb4, hbl, HGO, hB4⟩
              case measure => simp [intOf]; omega
          | false =>
            rw [hok] at CB
            rw [hok, if_neg (by simp)] at hgo
            have HGO := Lib.hid hgo
            clear hok hgo hlen3
            go_wp2_with fail
            refine CB.out.mono ?_; rintro e' w3 ⟨rfl, b3⟩
            have hbb3 := hbb.below b3 (Nat.le_refl _)
            have hB3 := nx hB2 b3
            clear hbb hint2 CB
            go_wp2_with fail
            go_roundw
            case rel => exact ⟨d, b, ab, cb, by omega, by rw [show n - d = x + 1 by omega]; go_num, rfl, hbb3, hbl, HGO, hB3⟩
            case measure => simp [intOf]; omega

/-- What the closure has captured: the boxes of best, k and of itself. -/
structure EnvF (w : World) (bb bk bt : Nat) (k : Int) (v : Value) : Prop where
  hb : w.heap[bb]? = some (.cells #[v] 24 (0, 0))
  hk : w.heap[bk]? = some (.cells #[.int .i64 k] 3 (0, 0))
  ht : w.heap[bt]? = some (.cells #[.func (.func 244) #[] #[.pointer (some ⟨bb, 0, none⟩), .pointer (some ⟨bk, 0, none⟩), .pointer (some ⟨bt, 0, none⟩)]] 116 (0, 0))
  d2 : bk ≠ bb
  d3 : bt ≠ bb
theorem EnvF.below {w w1 : World} {bb bk bt : Nat} {k : Int} {v : Value} (h : EnvF w bb bk bt k v) (hb : Below w.heap.size w w1) : EnvF w1 bb bk bt k v :=
  ⟨one_below h.hb hb (Nat.le_refl _), one_below h.hk hb (Nat.le_refl _), one_below h.ht hb (Nat.le_refl _), h.d2, h.d3⟩
theorem EnvF.set {w : World} {bb bk bt : Nat} {k : Int} {v : Value} (h : EnvF w bb bk bt k v) (u : Value) : EnvF (w.setCell ⟨bb, 0, none⟩ u) bb bk bt k u :=
  ⟨one_setCell h.hb, one_grown h.hk (grown_set _ _) (by simpa using h.d2), one_grown h.ht (grown_set _ _) (by simpa using h.d3), h.d2, h.d3⟩
theorem EnvF.lt {w : World} {bb bk bt : Nat} {k : Int} {v : Value} (h : EnvF w bb bk bt k v) : bb < w.heap.size := lt_of_block h.hb


set_option maxHeartbeats 3200000 in
theorem lfl_cl (n : Nat) (hn : n ≤ 14) (B bb bk bt : Nat) : ∀ (f fr : Nat) (c r b : List Int) (a ab : Option Addr) (cap cb : Nat) (w : World), lfGo n (n - fr) c c = r → n - fr ≤ f → fr ≤ n → c.length ≤ fr → b.length ≤ 60 → B ≤ w.heap.size → OwnX w B bb a cap c → OwnX w B bb ab cb b → EnvF w bb bk bt n (.slice ab b.length cb) →
    Calls Try.prog 244 #[.slice a c.length cap, .int .i64 fr, .pointer (some ⟨bb, 0, none⟩), .pointer (some ⟨bk, 0, none⟩), .pointer (some ⟨bt, 0, none⟩)] w fun e w' =>
      e = .returned (.tuple #[]) ∧ (∃ ab' cb', OwnX w' B bb ab' cb' (upd b r) ∧ EnvF w' bb bk bt n (.slice ab' (upd b r).length cb')) ∧ w.grownBy w' (some bb) := by
  intro f
  induction f with
  | zero =>
    intro fr c r b a ab cap cb w hr hf hfn hcf hbl hB hc hb env
    obtain rfl : fr = n := by omega
    have e : r = c := by rw [← hr, Nat.sub_self]; rfl
    subst e
    have q1 := cell_of_one env.hb
    have q2 := free_of_one env.hb
    have q3 := cell_of_one env.hk
    clear hr
    by_cases h : b.length < r.length
    · have hg := grown_set (w := w) bb (.slice a r.length cap)
      have env2 := env.set (.slice a r.length cap)
      have q5 := cell_of_one env2.hk
      rw [upd, if_pos h]
      go_enter Try.func244, Try.ntmps244
      go_wp2_with fail
      refine wp_loop_once ?_
      go_wp2_with fail
      go_end0
      exact ⟨rfl, ⟨a, cap, hc.grown hg, env2⟩, hg⟩
    · rw [upd, if_neg h]
      go_enter Try.func244, Try.ntmps244
      go_wp2_with fail
      refine wp_loop_once ?_
      go_wp2_with fail
      go_end0
      exact ⟨rfl, ⟨ab, cb, hb, env⟩, World.grownBy.refl _ _⟩
  | succ f ih =>
    intro fr c r b a ab cap cb w hr hf hfn hcf hbl hB hc hb env
    have HR := Lib.hid hr
    have IH := Lib.hid ih
    have q1 := cell_of_one env.hb
    have q2 := free_of_one env.hb
    have hstart : ∃ w1 ab1 cb1, (w = w1 ∧ ¬ b.length < c.length ∧ ab1 = ab ∧ cb1 = cb ∨ w1 = w.setCell ⟨bb, 0, none⟩ (.slice a c.length cap) ∧ b.length < c.length) ∧ OwnX w1 B bb a cap c ∧ OwnX w1 B bb ab1 cb1 (upd b c) ∧ EnvF w1 bb bk bt n (.slice ab1 (upd b c).length cb1) ∧ w.grownBy w1 (some bb) := by
      by_cases h : b.length < c.length
      · have hg := grown_set (w := w) bb (.slice a c.length cap)
        refine ⟨_, a, cap, .inr ⟨rfl, h⟩, hc.grown hg, ?_, ?_, hg⟩
        · rw [upd, if_pos h]; exact hc.grown hg
        · rw [upd, if_pos h]; exact env.set _
      · refine ⟨w, ab, cb, .inl ⟨rfl, h, rfl, rfl⟩, hc, ?_, ?_, World.grownBy.refl _ _⟩
        · rw [upd, if_neg h]; exact hb
        · rw [upd, if_neg h]; exact env
    clear hr ih env hb hc
    obtain ⟨w1, ab1, cb1, hw, hc1, hb1, env1, hgr1⟩ := hstart
    have HC1 := Lib.hid hc1
    have HB1 := Lib.hid hb1
    have HE1 := Lib.hid env1
    have HGR1 := Lib.hid hgr1
    clear hc1 hb1 env1 hgr1
    rcases hw with ⟨hw, hlen, h3, h4⟩ | ⟨hw, hlen⟩
    all_goals
      subst hw
      go_enter Try.func244, Try.ntmps244
      go_wp2_with fail
      go_loopw [7] (fun x wr => ∃ (d : Nat) (acc : List Int) (a1 : Option Addr) (c1 : Nat), d + fr ≤ n ∧ x = .int .i64 ((n - d : Nat) : Int) ∧ (upd b acc).length ≤ 60 ∧ OwnX wr B bb a cap c ∧ OwnX wr B bb a1 c1 (upd b acc) ∧ EnvF wr bb bk bt n (.slice a1 (upd b acc).length c1) ∧ Hid (lfGo n d c acc = r) ∧ w.grownBy wr (some bb)) (fun x _ => (n - intOf x).toNat)
      case atStart => exact ⟨n - fr, c, ab1, cb1, by omega, by rw [show n - (n - fr) = fr by omega], by have := upd_len b c; omega, HC1.out, HB1.out, HE1.out, HR.out, HGR1.out⟩
      case round =>
        obtain ⟨d, acc, a1, c1, hd, rfl, hal, hcr, hbr, env, HG, hgr⟩ := hrel
        clear q1 q2
        have q3 := cell_of_one env.hk
        match d, hd, HG with
        | 0, hd, HG =>
          have e : acc = r := HG.out
          subst e
          rw [Nat.sub_zero]
          clear HG HR
          go_wp2_with fail
          go_end0
          exact ⟨rfl, ⟨a1, c1, hbr, env⟩, hgr⟩
        | d + 1, hd, HG =>
          obtain ⟨x, hx⟩ : ∃ x, x = n - (d + 1) := ⟨_, rfl⟩
          have hxn : x + d + 1 ≤ n ∧ n ≤ x + d + 1 := by omega
          have hgo : lfGo n d c (if apB (c ++ [((n - (d + 1) : Nat) : Int)]) = true then upd acc (lfGo n d (c ++ [((n - (d + 1) : Nat) : Int)]) (c ++ [((n - (d + 1) : Nat) : Int)])) else acc) = r := HG.out
          rw [← hx] at hgo ⊢
          have hfx : fr ≤ x := by omega
          have hlt : (x : Int) < n := by omega
          have hl1 : c.length ≤ 2000000 := by omega
          have hBr : B ≤ wr.heap.size := Nat.le_trans hB hgr.size
          clear hx HG
          go_wp2_with fail
          refine (copyInts_any a cap c wr hcr.1.ints hl1).mono ?_; rintro e w2 ⟨a2, c2, rfl, o2, b2⟩
          have hwj : (Lit.int .i64 (x : Int)).wf = true := wf_of (by omega) (by omega)
          go_wp2_with (at_builtin; refine wpList_app rfl _ _ rfl wr.heap.size _ _ _ _ rfl rfl o2 hwj hl1 b2.size ?_)
          intro a3 c3 w3 o3 hb4
          have hb5 := hb4 _ b2
          have hlen2 : (c ++ [(x : Int)]).length = c.length + 1 := by simp
          have hlen3 := lfGo_len n d (c ++ [(x : Int)]) (c ++ [(x : Int)])
          have hox : OwnX w3 B bb a3 c3 (c ++ [(x : Int)]) := ⟨o3.mono hBr, fun x hx => by have := (o3.lt x hx).1; have := env.lt; omega⟩
          obtain ⟨e, he⟩ : ∃ e, e = c ++ [(x : Int)] := ⟨_, rfl⟩
          rw [← he] at hox hlen2 hgo hlen3
          rw [← hlen2]
          have hec : e.length ≤ c.length + 1 ∧ c.length + 1 ≤ e.length := by omega
          have HL2 := Lib.hid hlen2
          have g5 := grown_of hb5 (some bb)
          have hgr3 := grown_trans hgr g5
          have hcr3 := hcr.grown g5
          have hbr3 := hbr.grown g5
          have env3 := env.below hb5
          have hB3 : B ≤ w3.heap.size := Nat.le_trans hBr hb5.size
          clear hb4 hb5 b2 o2 o3 he hlen2 hwj hl1 hcr hbr env g5 q3 hgr hBr
          have CB := Lib.hid (apl_impl a3 c3 e w3 hox.1.ints (by omega))
          cases hok : apB e with
          | true =>
            rw [hok] at CB
            rw [hok, if_pos rfl] at hgo
            obtain ⟨y, hy⟩ : ∃ y, y = lfGo n d e e := ⟨_, rfl⟩
            rw [← hy] at hgo hlen3
            have hul := upd_len (upd b acc) y
            rw [upd_assoc] at hul
            have hul2 : (upd b (upd acc y)).length ≤ 60 := by omega
            have HGO := Lib.hid hgo
            have HY := Lib.hid hy
            clear hgo hy hok hul hlen3
            go_wp2_with fail
            refine CB.out.mono ?_; rintro e' w4 ⟨rfl, b4⟩
            have g4 := grown_of b4 (some bb)
            have env4 := env3.below b4
            have CI := Lib.hid (IH.out (x + 1) e y (upd b acc) a3 a1 c3 c1 w4 (by rw [show n - (x + 1) = d by omega]; exact HY.out.symm) (by omega) (by omega) (by omega) hal (Nat.le_trans hB3 b4.size) (hox.grown g4) (hbr3.grown g4) env4)
            rw [show ((x + 1 : Nat) : Int) = (x : Int) + 1 by omega] at CI
            have hgr4 := grown_trans hgr3 g4
            have hcr4 := hcr3.grown g4
            have q4 := cell_of_one env4.ht
            clear hox hbr3 hcr3 env3 env4 CB b4 g4 hgr3
            go_wp2_with fail
            refine CI.out.mono ?_; rintro e' w5 ⟨rfl, ⟨a5, c5, hb5, env5⟩, g5⟩
            have hgr5 := grown_trans hgr4 g5
            have hcr5 := hcr4.grown g5
            rw [upd_assoc] at hb5 env5
            clear CI g5 q4 hcr4 hgr4
            go_wp2_with fail
            go_roundw
            case rel => exact ⟨d, upd acc y, a5, c5, by omega, by rw [show n - d = x + 1 by omega]; go_num, hul2, hcr5, hb5, env5, HGO, hgr5⟩
            case measure => simp [intOf]; omega
          | false =>
            rw [hok] at CB
            rw [hok, if_neg (by simp)] at hgo
            have HGO := Lib.hid hgo
            clear hok hgo hlen3
            go_wp2_with fail
            refine CB.out.mono ?_; rintro e' w4 ⟨rfl, b4⟩
            have g4 := grown_of b4 (some bb)
            have hgr4 := grown_trans hgr3 g4
            have hcr4 := hcr3.grown g4
            have hbr4 := hbr3.grown g4
            have env4 := env3.below b4
            clear hox hbr3 hcr3 env3 CB b4 g4 hgr3
            go_wp2_with fail
            go_roundw
            case rel => exact ⟨d, acc, a1, c1, by omega, by rw [show n - d = x + 1 by omega]; go_num, hal, hcr4, hbr4, env4, HGO, hgr4⟩
            case measure => simp [intOf]; omega
end Go.Proofs.Ytbidkjhgodkamaa
