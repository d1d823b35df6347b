/-
Contracts of the search for the longest coloring: l24Longest and the closure of LongestColoring, both as one plain search with fuel; that fuel suffices is reckoned. Conditions: at most 3 colors.
-/
import Derived.Test.YtbidkjhgodkamaaFit
import Derived.Test.YtbidkjhgodkamaaApp
import Derived.Laws.EntriesVeiled
import Derived.WalkLawsBesides
namespace Go.Proofs.Ytbidkjhgodkamaa
open Go.RowKit Go.ChangeShapes

/-- fits, so that it can be reckoned. -/
def fitC (c : List Int) : Bool := (List.range (c.length / 2)).all fun s => !(c[s]? == c[c.length - 1]? && c[c.length - (s + 1) - 1]? == c[c.length - 1]?)
theorem fitC_eq (c : List Int) : fitB c = fitC c := by
  cases h : fitC c with
  | true =>
    apply fitB_true
    intro x h1 h2 hh
    simp only [fitC, List.all_eq_true, List.mem_range] at h
    have := h (x - 1) (by omega)
    rw [show x - 1 + 1 = x by omega] at this
    obtain ⟨g1, g2⟩ := hh
    rw [g1, g2] at this
    simp at this
  | false =>
    apply fitB_false
    intro hp
    simp only [fitC, List.all_eq_false, List.mem_range] at h
    obtain ⟨s, hs, hh⟩ := h
    simp at hh
    exact hp (s + 1) (by omega) (by omega) ⟨by simpa using hh.1, by simpa using hh.2⟩

def upd (b y : List Int) : List Int := if b.length < y.length then y else b
theorem upd_assoc (b c y : List Int) : upd (upd b c) y = upd b (upd c y) := by
  unfold upd
  by_cases h1 : b.length < c.length <;> by_cases h2 : c.length < y.length
  · simp only [if_pos h1, if_pos h2]; rw [if_pos (by omega)]
  · simp only [if_pos h1, if_neg h2]
  · simp only [if_neg h1, if_pos h2]
  · simp only [if_neg h1, if_neg h2]; rw [if_neg (by omega)]

/-- The children j, j + 1, .. (m of them), b the best so far. -/
def lcGo (rec : List Int → Nat → Option (List Int)) (c : List Int) (used : Nat) : Nat → Nat → List Int → Option (List Int)
  | 0, _, b => some b
  | m + 1, j, b => if fitC (c ++ [(j : Int)]) = true then (match rec (c ++ [(j : Int)]) (max used (j + 1)) with
      | none => none
      | some y => lcGo rec c used m (j + 1) (upd b y)) else lcGo rec c used m (j + 1) b
/-- The first of the longest colorings that go on from c. -/
def lcF (k : Nat) : Nat → List Int → Nat → Option (List Int)
  | 0, _, _ => none
  | f + 1, c, used => lcGo (lcF k f) c used (min k (used + 1)) 0 c

set_option maxHeartbeats 3200000 in
theorem l24Longest_any (k : Nat) (hk : k ≤ 3) (B : Nat) : ∀ (f : Nat) (c r : List Int) (used : Nat) (a : Option Addr) (cap : Nat) (w : World), lcF k f c used = some r → c.length + f ≤ 20 → used ≤ 10 → B ≤ w.heap.size → OwnI w B a cap c →
    Calls Try.prog 237 #[.slice a c.length cap, .int .i64 k, .int .i64 used] w fun e w' => ∃ a' cap', e = .returned (.slice a' r.length cap') ∧ OwnI w' B a' cap' r ∧ Below w.heap.size w w' := by
  intro f
  induction f with
  | zero => intro c r used a cap w h; cases h
  | succ f ih =>
    intro c r used a cap w hr hf hu hB h0
    have hr' : lcGo (lcF k f) c used (min k (used + 1)) 0 c = some r := hr
    have HR := Lib.hid hr'
    have IH := Lib.hid ih
    clear hr hr' ih
    go_enter Try.func237, Try.ntmps237
    go_wp2_with fail
    go_loopw [7, 8] (fun v x wr => ∃ (j m : Nat) (b : List Int) (ab : Option Addr) (cb : Nat), m + j ≤ min k (used + 1) ∧ min k (used + 1) ≤ m + j ∧ x = .int .i64 j ∧ v = .slice ab b.length cb ∧ OwnI wr B ab cb b ∧ Hid (lcGo (lcF k f) c used m j b = some r) ∧ Below w.heap.size w wr) (fun _ x _ => k - (intOf x).toNat)
    case atStart => exact ⟨0, _, c, a, cap, by omega, by omega, rfl, rfl, h0, HR.out, Below.refl _ _⟩
    case round =>
      obtain ⟨j, m, b, ab, cb, hj1, hj2, rfl, rfl, hb, HG, hbel⟩ := hrel
      match m, hj1, hj2, HG with
      | 0, hj1, hj2, HG =>
        have e : b = r := by have := HG.out; simpa [lcGo] using this
        subst e
        have hjk : j ≤ k := by omega
        by_cases hlt : j < k
        · have hju : ¬ (j : Int) ≤ used := by omega
          clear HG HR
          go_wp2_with fail
          go_ret
          exact ⟨_, _, rfl, hb, hbel⟩
        · clear HG HR
          go_wp2_with fail
          go_ret
          exact ⟨_, _, rfl, hb, hbel⟩
      | m + 1, hj1, hj2, HG =>
        have hlt : j < k := by omega
        have hju : (j : Int) ≤ used := by omega
        have h1 := (h0.below hbel (Nat.le_refl _)).ints.alloc (.cells #[] 3)
        have hm := OwnI.made wr wr.heap.size (Nat.le_refl _)
        have hb1 := (Below.refl wr.heap.size wr).alloc (Nat.le_refl _) (.cells #[] 3)
        have hl0 : ([] : List Int).length ≤ 2000000 := by simp
        have hl1 : c.length ≤ 2000000 := by omega
        have hsz : wr.heap.size ≤ (wr.alloc (.cells #[] 3)).heap.size := by simp
        go_wp2_with (at_builtin; refine wpList_appAll rfl (.tmp 22) (.tmp 23) rfl wr.heap.size _ _ [] _ _ c rfl rfl hm h1 hl0 hl1 hsz ?_)
        intro a1 c1 w1 o1 hb2
        have hb3 := hb2 _ hb1
        have hwj : (Lit.int .i64 (j : Int)).wf = true := wf_of (by omega) (by omega)
        clear hb1 hb2 hm h1 hl0
        go_wp2_with (at_builtin; refine wpList_app rfl (.tmp 24) (.tmp 26) rfl wr.heap.size _ _ _ _ rfl rfl o1 hwj hl1 hb3.size ?_)
        intro a2 c2 w2 o2 hb4
        have hb5 := hb4 _ hb3
        have hlen2 : (c ++ [(j : Int)]).length = c.length + 1 := by simp
        have hBr : B ≤ wr.heap.size := Nat.le_trans hB hbel.size
        have hint2 := o2.mono hBr
        have hB2' : B ≤ w2.heap.size := Nat.le_trans hBr hb5.size
        have hgo : (if fitC (c ++ [(j : Int)]) = true then (match lcF k f (c ++ [(j : Int)]) (max used (j + 1)) with
          | none => none
          | some y => lcGo (lcF k f) c used m (j + 1) (upd b y)) else lcGo (lcF k f) c used m (j + 1) b) = some r := HG.out
        obtain ⟨d, hd⟩ : ∃ d, d = c ++ [(j : Int)] := ⟨_, rfl⟩
        rw [← hd] at hint2 hlen2 hgo
        rw [← hlen2]
        have HL2 := Lib.hid hlen2
        have hB2 := nx hbel hb5
        have hbb := hb.below hb5 (Nat.le_refl _)
        have hd60 : d.length ≤ 60 := by omega
        clear hb4 hb3 o1 o2 hd hlen2 hwj hl1 HG hb
        have CB := Lib.hid (bad_any a2 c2 d w2 hint2.ints hd60)
        cases hfit : fitC d with
        | true =>
          rw [fitC_eq, hfit] at CB
          rw [hfit, if_pos rfl] at hgo
          clear hfit
          cases hy : lcF k f d (max used (j + 1)) with
          | none => rw [hy] at hgo; cases hgo
          | some y =>
            rw [hy] at hgo
            have HGO := Lib.hid hgo
            have HY := Lib.hid hy
            clear hgo hy
            have hmax : ((max used (j + 1) : Nat) : Int) = max (used : Int) ((j : Int) + 1) := by omega
            have hmu : max used (j + 1) ≤ 10 := by omega
            obtain ⟨u2, hu2⟩ : ∃ u2, u2 = max used (j + 1) := ⟨_, rfl⟩
            rw [← hu2] at HY hmax hmu
            have hmc : (used : Int) < j + 1 ∧ (u2 : Int) = j + 1 ∨ (j : Int) + 1 ≤ used ∧ (u2 : Int) = used := by omega
            clear hu2 hmax
            go_wp2_with fail
            refine CB.out.mono ?_; rintro e w3 ⟨rfl, b3⟩
            have hint3 := hint2.below b3 (Nat.le_refl _)
            have hbb3 := hbb.below b3 (Nat.le_refl _)
            have CI := Lib.hid (IH.out d y u2 a2 c2 w3 HY.out (by have := HL2.out; omega) hmu (Nat.le_trans hB2' b3.size) hint3)
            clear hint2 hint3 hbb CB
            rcases hmc with ⟨m1, m2⟩ | ⟨m1, m2⟩
            all_goals
              rw [m2] at CI
              clear m2
              go_wp2_with fail
              refine CI.out.mono ?_; rintro e w4 ⟨a4, c4, rfl, i4, b4⟩
              have hbb4 := hbb3.below b4 (Nat.le_refl _)
              have hB4 := nx (nx hB2 b3) b4
              by_cases hlen : b.length < y.length
              · have e : upd b y = y := by rw [upd, if_pos hlen]
                rw [e] at HGO
                clear e hbb4 hbb3 b3 b4 CI
                go_wp2_with fail
                go_roundw
                case rel => exact ⟨j + 1, m, y, a4, c4, by omega, by omega, by go_num, rfl, i4, HGO, hB4⟩
                case measure => simp [intOf]; omega
              · have e : upd b y = b := by rw [upd, if_neg hlen]
                rw [e] at HGO
                clear e i4 hbb3 b3 b4 CI
                go_wp2_with fail
                go_roundw
                case rel => exact ⟨j + 1, m, b, ab, cb, by omega, by omega, by go_num, rfl, hbb4, HGO, hB4⟩
                case measure => simp [intOf]; omega
        | false =>
          rw [fitC_eq, hfit] at CB
          rw [hfit, if_neg (by simp)] at hgo
          have HGO := Lib.hid hgo
          clear hfit hgo
          go_wp2_with fail
          refine CB.out.mono ?_; rintro e w3 ⟨rfl, b3⟩
          have hbb3 := hbb.below b3 (Nat.le_refl _)
          have hB3 := nx hB2 b3
          clear hbb hint2 CB
          go_wp2_with fail
          go_roundw
          case rel => exact ⟨j + 1, m, b, ab, cb, by omega, by omega, by go_num, rfl, hbb3, HGO, hB3⟩
          case measure => simp [intOf]; omega

/-- What the closure has captured: the boxes of best, k and of itself. -/
structure EnvL (w : World) (bb bk bt : Nat) (k : Int) (v : Value) : Prop where
  hb : w.heap[bb]? = some (.cells #[v] 24 (0, 0))
  hk : w.heap[bk]? = some (.cells #[.int .i64 k] 3 (0, 0))
  ht : w.heap[bt]? = some (.cells #[.func (.func 235) #[] #[.pointer (some ⟨bb, 0, none⟩), .pointer (some ⟨bk, 0, none⟩), .pointer (some ⟨bt, 0, none⟩)]] 116 (0, 0))
  d2 : bk ≠ bb
  d3 : bt ≠ bb
theorem EnvL.below {w w1 : World} {bb bk bt : Nat} {k : Int} {v : Value} (h : EnvL w bb bk bt k v) (hb : Below w.heap.size w w1) : EnvL w1 bb bk bt k v :=
  ⟨one_below h.hb hb (Nat.le_refl _), one_below h.hk hb (Nat.le_refl _), one_below h.ht hb (Nat.le_refl _), h.d2, h.d3⟩
theorem EnvL.set {w : World} {bb bk bt : Nat} {k : Int} {v : Value} (h : EnvL w bb bk bt k v) (u : Value) : EnvL (w.setCell ⟨bb, 0, none⟩ u) bb bk bt k u :=
  ⟨one_setCell h.hb, one_grown h.hk (grown_set _ _) (by simpa using h.d2), one_grown h.ht (grown_set _ _) (by simpa using h.d3), h.d2, h.d3⟩
theorem EnvL.lt {w : World} {bb bk bt : Nat} {k : Int} {v : Value} (h : EnvL w bb bk bt k v) : bb < w.heap.size := lt_of_block h.hb

/-- A list of the call's own that does not lie in the box bb. -/
def OwnX (w : World) (B bb : Nat) (a : Option Addr) (c : Nat) (xs : List Int) : Prop := OwnI w B a c xs ∧ ∀ x, a = some x → x.block ≠ bb
theorem OwnX.grown {w w' : World} {B bb : Nat} {a : Option Addr} {c : Nat} {xs : List Int} (h : OwnX w B bb a c xs) (hg : w.grownBy w' (some bb)) : OwnX w' B bb a c xs :=
  ⟨h.1.grown hg (fun x hx e => h.2 x hx (by simpa using e.symm)), h.2⟩

set_option maxHeartbeats 3200000 in
theorem lng_cl (k : Nat) (hk : k ≤ 3) (B bb bk bt : Nat) : ∀ (f : Nat) (c r b : List Int) (used : Nat) (a ab : Option Addr) (cap cb : Nat) (w : World), lcF k f c used = some r → c.length + f ≤ 20 → used ≤ 10 → B ≤ w.heap.size → OwnX w B bb a cap c → OwnX w B bb ab cb b → EnvL w bb bk bt k (.slice ab b.length cb) →
    Calls Try.prog 235 #[.slice a c.length cap, .int .i64 used, .pointer (some ⟨bb, 0, none⟩), .pointer (some ⟨bk, 0, none⟩), .pointer (some ⟨bt, 0, none⟩)] w fun e w' =>
      e = .returned (.tuple #[]) ∧ (∃ ab' cb', OwnX w' B bb ab' cb' (upd b r) ∧ EnvL w' bb bk bt k (.slice ab' (upd b r).length cb')) ∧ w.grownBy w' (some bb) := by
  intro f
  induction f with
  | zero => intro c r b used a ab cap cb w h; cases h
  | succ f ih =>
    intro c r b used a ab cap cb w hr hf hu hB hc hb env
    have hr' : lcGo (lcF k f) c used (min k (used + 1)) 0 c = some r := hr
    have HR := Lib.hid hr'
    have IH := Lib.hid ih
    have q1 := cell_of_one env.hb
    have q2 := free_of_one env.hb
    have hstart : ∃ w1 ab1 cb1, (w = w1 ∧ ¬ b.length < c.length ∧ ab1 = ab ∧ cb1 = cb ∨ w1 = w.setCell ⟨bb, 0, none⟩ (.slice a c.length cap) ∧ b.length < c.length) ∧ OwnX w1 B bb a cap c ∧ OwnX w1 B bb ab1 cb1 (upd b c) ∧ EnvL w1 bb bk bt k (.slice ab1 (upd b c).length cb1) ∧ w.grownBy w1 (some bb) := by
      by_cases h : b.length < c.length
      · have hg := grown_set (w := w) bb (.slice a c.length cap)
        refine ⟨_, a, cap, .inr ⟨rfl, h⟩, hc.grown hg, ?_, ?_, hg⟩
        · rw [upd, if_pos h]; exact hc.grown hg
        · rw [upd, if_pos h]; exact env.set _
      · refine ⟨w, ab, cb, .inl ⟨rfl, h, rfl, rfl⟩, hc, ?_, ?_, World.grownBy.refl _ _⟩
        · rw [upd, if_neg h]; exact hb
        · rw [upd, if_neg h]; exact env
    clear hr hr' ih env hb hc
    obtain ⟨w1, ab1, cb1, hw, hc1, hb1, env1, hgr1⟩ := hstart
    have HC1 := Lib.hid hc1
    have HB1 := Lib.hid hb1
    have HE1 := Lib.hid env1
    have HGR1 := Lib.hid hgr1
    clear hc1 hb1 env1 hgr1
    have HW := Lib.hid hw
    have hround : ∀ wx, wx = w1 → True := fun _ _ => trivial
    clear hround
    rcases hw with ⟨hw, hlen, h3, h4⟩ | ⟨hw, hlen⟩
    all_goals
      subst hw
      go_enter Try.func235, Try.ntmps235
      go_wp2_with fail
      go_loopw [7] (fun x wr => ∃ (j m : Nat) (acc : List Int) (a1 : Option Addr) (c1 : Nat), m + j ≤ min k (used + 1) ∧ min k (used + 1) ≤ m + j ∧ x = .int .i64 j ∧ OwnX wr B bb a cap c ∧ OwnX wr B bb a1 c1 (upd b acc) ∧ EnvL wr bb bk bt k (.slice a1 (upd b acc).length c1) ∧ Hid (lcGo (lcF k f) c used m j acc = some r) ∧ w.grownBy wr (some bb)) (fun x _ => k - (intOf x).toNat)
      case atStart => exact ⟨0, _, c, ab1, cb1, by omega, by omega, rfl, HC1.out, HB1.out, HE1.out, HR.out, HGR1.out⟩
      case round =>
        obtain ⟨j, m, acc, a1, c1, hj1, hj2, rfl, hcr, hbr, env, HG, hgr⟩ := hrel
        clear q1 q2
        have q3 := cell_of_one env.hk
        match m, hj1, hj2, HG with
        | 0, hj1, hj2, HG =>
          have e : acc = r := by have := HG.out; simpa [lcGo] using this
          subst e
          clear HG HR
          by_cases hju : (j : Int) ≤ used
          · have hjk : ¬ (j : Int) < k := by omega
            go_wp2_with fail
            go_end0
            exact ⟨rfl, ⟨a1, c1, hbr, env⟩, hgr⟩
          · go_wp2_with fail
            go_end0
            exact ⟨rfl, ⟨a1, c1, hbr, env⟩, hgr⟩
        | m + 1, hj1, hj2, HG =>
          have hlt : (j : Int) < k := by omega
          have hju : (j : Int) ≤ used := by omega
          have hl1 : c.length ≤ 2000000 := by omega
          have hBr : B ≤ wr.heap.size := Nat.le_trans hB hgr.size
          go_wp2_with fail
          refine (copyInts_any a cap c wr hcr.1.ints hl1).mono ?_; rintro e w2 ⟨a2, c2, rfl, o2, b2⟩
          have hwj : (Lit.int .i64 (j : Int)).wf = true := wf_of (by omega) (by omega)
          go_wp2_with (at_builtin; refine wpList_app rfl _ _ rfl wr.heap.size _ _ _ _ rfl rfl o2 hwj hl1 b2.size ?_)
          intro a3 c3 w3 o3 hb4
          have hb5 := hb4 _ b2
          have hlen2 : (c ++ [(j : Int)]).length = c.length + 1 := by simp
          have hgo : (if fitC (c ++ [(j : Int)]) = true then (match lcF k f (c ++ [(j : Int)]) (max used (j + 1)) with
            | none => none
            | some y => lcGo (lcF k f) c used m (j + 1) (upd acc y)) else lcGo (lcF k f) c used m (j + 1) acc) = some r := HG.out
          have hox : OwnX w3 B bb a3 c3 (c ++ [(j : Int)]) := ⟨o3.mono hBr, fun x hx => by have := (o3.lt x hx).1; have := env.lt; omega⟩
          obtain ⟨d, hd⟩ : ∃ d, d = c ++ [(j : Int)] := ⟨_, rfl⟩
          rw [← hd] at hox hlen2 hgo
          rw [← hlen2]
          have HL2 := Lib.hid hlen2
          have g5 := grown_of hb5 (some bb)
          have hgr3 := grown_trans hgr g5
          have hcr3 := hcr.grown g5
          have hbr3 := hbr.grown g5
          have env3 := env.below hb5
          have hd60 : d.length ≤ 60 := by omega
          have hB3 : B ≤ w3.heap.size := Nat.le_trans hBr hb5.size
          clear hb4 hb5 b2 o2 o3 hd hlen2 hwj hl1 HG hcr hbr env g5 q3 hgr hBr
          have CB := Lib.hid (fits_any a3 c3 d w3 hox.1.ints hd60)
          cases hfit : fitC d with
          | true =>
            rw [fitC_eq, hfit] at CB
            rw [hfit, if_pos rfl] at hgo
            clear hfit
            cases hy : lcF k f d (max used (j + 1)) with
            | none => rw [hy] at hgo; cases hgo
            | some y =>
              rw [hy] at hgo
              have HGO := Lib.hid hgo
              have HY := Lib.hid hy
              clear hgo hy
              have hmax : ((max used (j + 1) : Nat) : Int) = max (used : Int) ((j : Int) + 1) := by omega
              have hmu : max used (j + 1) ≤ 10 := by omega
              obtain ⟨u2, hu2⟩ : ∃ u2, u2 = max used (j + 1) := ⟨_, rfl⟩
              rw [← hu2] at HY hmax hmu
              have hmc : (used : Int) < j + 1 ∧ (u2 : Int) = j + 1 ∨ (j : Int) + 1 ≤ used ∧ (u2 : Int) = used := by omega
              clear hu2 hmax
              go_wp2_with fail
              refine CB.out.mono ?_; rintro e w4 ⟨rfl, b4⟩
              have g4 := grown_of b4 (some bb)
              have env4 := env3.below b4
              have CI := Lib.hid (IH.out d y (upd b acc) u2 a3 a1 c3 c1 w4 HY.out (by have := HL2.out; omega) hmu (Nat.le_trans hB3 b4.size) (hox.grown g4) (hbr3.grown g4) env4)
              have hgr4 := grown_trans hgr3 g4
              have hcr4 := hcr3.grown g4
              have q4 := cell_of_one env4.ht
              clear hox hbr3 hcr3 env3 env4 CB b4 g4 hgr3
              rcases hmc with ⟨m1, m2⟩ | ⟨m1, m2⟩
              all_goals
                rw [m2] at CI
                clear m2
                go_wp2_with fail
                refine CI.out.mono ?_; rintro e w5 ⟨rfl, ⟨a5, c5, hb5, env5⟩, g5⟩
                have hgr5 := grown_trans hgr4 g5
                have hcr5 := hcr4.grown g5
                rw [upd_assoc] at hb5 env5
                clear CI g5 q4 hcr4 hgr4
                go_wp2_with fail
                go_roundw
                case rel => exact ⟨j + 1, m, upd acc y, a5, c5, by omega, by omega, by go_num, hcr5, hb5, env5, HGO, hgr5⟩
                case measure => simp [intOf]; omega
          | false =>
            rw [fitC_eq, hfit] at CB
            rw [hfit, if_neg (by simp)] at hgo
            have HGO := Lib.hid hgo
            clear hfit hgo
            go_wp2_with fail
            refine CB.out.mono ?_; rintro e w4 ⟨rfl, b4⟩
            have g4 := grown_of b4 (some bb)
            have hgr4 := grown_trans hgr3 g4
            have hcr4 := hcr3.grown g4
            have hbr4 := hbr3.grown g4
            have env4 := env3.below b4
            clear hox hbr3 hcr3 env3 CB b4 g4 hgr3
            go_wp2_with fail
            go_roundw
            case rel => exact ⟨j + 1, m, acc, a1, c1, by omega, by omega, by go_num, hcr4, hbr4, env4, HGO, hgr4⟩
            case measure => simp [intOf]; omega
end Go.Proofs.Ytbidkjhgodkamaa
