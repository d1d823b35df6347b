/-
Contracts of both sides' FindDifferenceSet: the first set in the order of a search. Conditions: lengths at most 2000000.
-/
import Derived.Test.YtbidkjhgodkamaaCor
import Derived.Test.YtbidkjhgodkamaaSrch
import Derived.Test.YtbidkjhgodkamaaSto
import Derived.Laws.EntriesVeiled
namespace Go.Proofs.Ytbidkjhgodkamaa
open Go.RowKit Go.ChangeShapes
set_option linter.unusedVariables false

/-- The first set with some more elements that has the property. -/
def fdO (P : Nat → Bool) (N : Nat) : Nat → Nat → Nat → Option Nat
  | 0, 0, a => if P a = true then some a else none
  | 0, _ + 1, _ => none
  | _ + 1, 0, a => if P a = true then some a else none
  | d + 1, left + 1, a => match fdO P N d left (a ||| 2 ^ (N - (d + 1))) with
    | some b => some b
    | none => fdO P N d (left + 1) a
theorem fdO_zero (P : Nat → Bool) (N d a : Nat) : fdO P N d 0 a = if P a = true then some a else none := by cases d <;> rfl
theorem fdO_lt (P : Nat → Bool) (N : Nat) : ∀ d left a b, d ≤ N → a < 2 ^ (N - d) → fdO P N d left a = some b → b < 2 ^ N
  | d, 0, a, b, hd, ha, h => by
    rw [fdO_zero] at h
    split at h
    · cases h; exact Nat.lt_of_lt_of_le ha (Nat.pow_le_pow_right (by decide) (by omega))
    · cases h
  | 0, _ + 1, _, _, _, _, h => by cases h
  | d + 1, left + 1, a, b, hd, ha, h => by
    have hx1 : N - d = N - (d + 1) + 1 := by omega
    have hb : a ||| 2 ^ (N - (d + 1)) < 2 ^ (N - d) := by rw [hx1]; exact or_bit_lt ha
    have ha' : a < 2 ^ (N - d) := by rw [hx1]; exact Nat.lt_of_lt_of_le ha (Nat.pow_le_pow_right (by decide) (by omega))
    unfold fdO at h
    split at h
    · rename_i c hc
      cases h
      exact fdO_lt P N d left _ _ (by omega) hb hc
    · exact fdO_lt P N d (left + 1) a b (by omega) ha' h
/-- What the reference's search hands back. -/
def FoundR (o : Option Nat) (w : World) (e : Ending) (w' : World) : Prop :=
  ∃ v : Nat, e = .returned (.tuple #[.int .i64 (v : Int), .bool o.isSome]) ∧ v < 16777216 ∧ (∀ b, o = some b → v = b) ∧ Below w.heap.size w w'
/-- The state of the search with one more place to go. -/
theorem fd_facts {P : Nat → Bool} {N d left a fr : Nat} {o : Option Nat} (hN : N ≤ 24) (hd : d + 1 + fr ≤ N) (ha : a < 2 ^ fr) (h : fdO P N (d + 1) (left + 1) a = o) :
    ∃ x c T : Nat, x = N - (d + 1) ∧ x + d + 1 ≤ N ∧ N ≤ x + d + 1 ∧ fr ≤ x ∧ T = 2 ^ x ∧ T ≤ 16777216 ∧ c = a ||| T ∧ c < 2 ^ (x + 1) ∧ c < 16777216 ∧ IntKind.i64.wrap (2 ^ x) = (T : Int) ∧ bits .or .i64 (a : Int) (T : Int) = (c : Int) ∧
    (match fdO P N d left c with | some b => some b | none => fdO P N d (left + 1) a) = o := by
  obtain ⟨x, hx⟩ : ∃ x, x = N - (d + 1) := ⟨_, rfl⟩
  have hax : a < 2 ^ x := Nat.lt_of_lt_of_le ha (Nat.pow_le_pow_right (by decide) (by omega))
  have h24x : (2 : Nat) ^ x ≤ 16777216 := by
    have := Nat.pow_le_pow_right (n := 2) (by decide) (show x ≤ 24 by omega)
    simpa using this
  have hcx := or_bit_lt hax
  have hc24 : a ||| 2 ^ x < 16777216 := by
    have h1 := Nat.pow_le_pow_right (n := 2) (by decide) (show x + 1 ≤ 24 by omega)
    have e : (2 : Nat) ^ 24 = 16777216 := by decide
    omega
  refine ⟨x, a ||| 2 ^ x, 2 ^ x, hx, by omega, by omega, by omega, rfl, h24x, rfl, hcx, hc24, by rw [pow_wrap62 x (by omega)]; simp, or_nat _ _ (by omega) (by omega), ?_⟩
  rw [hx]; exact h

set_option maxRecDepth 20000 in
set_option maxHeartbeats 3200000 in
theorem l22Find_any (N : Nat) (os : List Int) (a0 : Option Addr) (c0 : Nat) (hl : os.length ≤ 2000000) (hN : N ≤ 24) (hg0 : grpB os = true) (hNo : gord os = (N : Int))
    : ∀ (f fr left a : Nat) (o : Option Nat) (w : World), N - fr = f → fdO (fun b => dsB os (b : Int)) N (N - fr) left a = o → fr ≤ N → left ≤ 100 → a < 2 ^ fr → Ints w a0 c0 os →
    Calls Try.prog 203 #[.agg #[.slice a0 os.length c0], .int .i64 (left : Int), .int .i64 (a : Int), .int .i64 (fr : Int)] w (FoundR o w) := by
  have CO := Lib.hid (fun w h => l2Order_any a0 c0 os w h hg0)
  rw [hNo] at CO
  have CD := Lib.hid (fun (b : Nat) w h => ids_spec a0 c0 os (b : Int) w h hl)
  clear hg0 hNo
  intro f
  induction f using Nat.strongRecOn with
  | ind f ih =>
  intro fr left a o w hf hr hfn hleft ha h0
  have hb0 := (Below.refl w.heap.size w).alloc (Nat.le_refl _) (.cells #[.slice a0 os.length c0] 26)
  have ha24 : a < 16777216 := by
    have h1 := Nat.pow_le_pow_right (n := 2) (by decide) (show fr ≤ 24 by omega)
    have e : (2 : Nat) ^ 24 = 16777216 := by decide
    omega
  match left, hr, hleft with
  | 0, hr, hleft =>
    rw [fdO_zero] at hr
    have h1 := h0.below hb0 (Nat.le_refl _)
    have CD1 := Lib.hid (CD.out a _ h1)
    obtain ⟨v, hv⟩ : ∃ v, v = dsV os (a : Int) := ⟨_, rfl⟩
    rw [← hv] at CD1
    have hro : (dsB os (a : Int) = true ∧ o = some a) ∨ (dsB os (a : Int) = false ∧ o = none) := by
      cases hb : dsB os (a : Int) with
      | true => rw [hb] at hr; exact .inl ⟨rfl, hr.symm⟩
      | false => rw [hb] at hr; exact .inr ⟨rfl, hr.symm⟩
    clear ih hf ha h0 hr hv
    rcases hro with ⟨hb, rfl⟩ | ⟨hb, rfl⟩
    all_goals
      rw [hb] at CD1
      clear hb
      go_enter Try.func203, Try.ntmps203
      go_wp2_with fail
      refine CD1.out.mono ?_; rintro e w1 ⟨rfl, b1⟩
      go_wp2_with fail
      go_ret2
    · exact ⟨a, rfl, ha24, (fun b h => by cases h; rfl), nx hb0 b1⟩
    · exact ⟨a, rfl, ha24, (fun b h => by cases h), nx hb0 b1⟩
  | left + 1, hr, hleft =>
    have IH := Lib.hid ih
    have HF := Lib.hid hf
    have HR := Lib.hid hr
    have HA := Lib.hid ha
    have hl0 : (((left + 1 : Nat) : Int) == 0) = false := by simp; omega
    obtain ⟨L, hL⟩ : ∃ L, L = left + 1 := ⟨_, rfl⟩
    have hl1 : IntKind.i64.wrap ((L : Int) - 1) = (left : Int) := by rw [wrap_in (by omega) (by omega)]; omega
    have hl2 : (L : Int) - 1 = (left : Int) := by omega
    have hl3 : IntKind.i64.wrap (left : Int) = (left : Int) := wrap_in (by omega) (by omega)
    rw [← hL] at hl0 ⊢
    have hLb : 1 ≤ L ∧ L ≤ 100 := by omega
    clear ih hf hr ha hL CD
    go_enter Try.func203, Try.ntmps203
    go_wp2_with fail
    go_loopw [12] (fun x wr => ∃ (d : Nat), d + fr ≤ N ∧ x = .int .i64 ((N - d : Nat) : Int) ∧ Hid (fdO (fun b => dsB os (b : Int)) N d (left + 1) a = o) ∧ Below w.heap.size w wr ∧ wr.cell? ⟨w.heap.size, 0, none⟩ = some (.slice a0 os.length c0) ∧ w.heap.size < wr.heap.size) (fun x _ => (N - intOf x).toNat)
    case atStart => exact ⟨N - fr, by omega, by rw [show N - (N - fr) = fr by omega], HR, hb0, by simp [go_sem], by simp⟩
    case round =>
      obtain ⟨d, hd, rfl, HG, hbel, hbox, z0⟩ := hrel
      have h1 := h0.below hbel (Nat.le_refl _)
      match d, hd, HG with
      | 0, hd, HG =>
        have e : none = o := HG.out
        subst e
        rw [Nat.sub_zero]
        clear HG HR
        go_wp2_with fail
        refine (CO.out _ h1).mono ?_; rintro e w1 ⟨rfl, b1⟩
        go_wp2_with fail
        go_ret2
        exact ⟨0, rfl, by omega, (fun b h => by cases h), nx hbel b1⟩
      | d + 1, hd, HG =>
        obtain ⟨x, c, T, hx, hx1, hx2, hfx, hT, hT1, hc, hcx, hc24, hw, hor, hgo⟩ := fd_facts hN hd HA.out HG.out
        rw [← hx]
        have hlt : (x : Int) < N := by omega
        have hxN : x + 1 ≤ N := by omega
        have hx1' : IntKind.i64.wrap ((x : Int) + 1) = (x : Int) + 1 := wrap_in (by omega) (by omega)
        have HCX := Lib.hid hcx
        obtain ⟨y, hy⟩ : ∃ y, y = fdO (fun b => dsB os (b : Int)) N d left c := ⟨_, rfl⟩
        rw [← hy] at hgo
        have HY := Lib.hid hy
        have HGO := Lib.hid hgo
        clear hx HG hT hc hcx hy hgo
        go_wp2_with fail
        refine (CO.out _ h1).mono ?_; rintro e w1 ⟨rfl, b1⟩
        have h2 := h1.below b1 (Nat.le_refl _)
        have hbox1 := (b1.cell (p := ⟨w.heap.size, 0, none⟩) z0).trans hbox
        have z1 := Nat.lt_of_lt_of_le z0 b1.size
        have hbel1 := nx hbel b1
        have CI := Lib.hid (IH.out d (by have := HF.out; omega) (x + 1) left c y w1.drew (by omega) (by rw [show N - (x + 1) = d by omega]; exact HY.out.symm) (by omega) (by omega) HCX.out h2.drew)
        rw [show ((x + 1 : Nat) : Int) = (x : Int) + 1 by omega] at CI
        clear b1 hbox z0 hbel h1
        cases y with
        | some b =>
          have e : some b = o := HGO.out
          subst e
          clear HGO HR HY
          go_wp2_with fail
          go_region_held3 (fun w' => w'.cell? ⟨w.heap.size, 0, none⟩ = some (.slice a0 os.length c0)) (assumption) (first
            | (go_at_call 203; refine CI.out.mono ?_; rintro e w2 ⟨v, rfl, hv24, hv, b2⟩; have hbox2 := (b2.cell (p := ⟨w.heap.size, 0, none⟩) z1).trans hbox1))
          go_wp2_with fail
          go_ret2
          exact ⟨b, rfl, (by have := hv b rfl; omega), (fun b' h => by cases h; rfl), nx hbel1 (below_undrew b2)⟩
        | none =>
          have HGO2 : Hid (fdO (fun b => dsB os (b : Int)) N d (left + 1) a = o) := Lib.hid HGO.out
          clear HGO HY
          go_wp2_with fail
          go_region_held3 (fun w' => w'.cell? ⟨w.heap.size, 0, none⟩ = some (.slice a0 os.length c0)) (assumption) (first
            | (go_at_call 203; refine CI.out.mono ?_; rintro e w2 ⟨v, rfl, hv24, hv, b2⟩; have hbox2 := (b2.cell (p := ⟨w.heap.size, 0, none⟩) z1).trans hbox1))
          clear hv
          go_wp2_with fail
          go_roundw
          case rel => exact ⟨d, by omega, by rw [show N - d = x + 1 by omega]; go_num, HGO2, nx hbel1 (below_undrew b2), hbox2, Nat.lt_of_lt_of_le z1 b2.size⟩
          case measure => simp [intOf]; omega

/-- What the closure has captured: the boxes of found, g and of itself. -/
structure EnvD (w : World) (bf bg bt : Nat) (a0 : Option Addr) (n0 c0 : Nat) (v : Nat) : Prop where
  hf : w.heap[bf]? = some (.cells #[.int .i64 (v : Int)] 3 (0, 0))
  hg : w.heap[bg]? = some (.cells #[.slice a0 n0 c0] 26 (0, 0))
  ht : w.heap[bt]? = some (.cells #[.func (.func 201) #[] #[.pointer (some ⟨bf, 0, none⟩), .pointer (some ⟨bg, 0, none⟩), .pointer (some ⟨bt, 0, none⟩)]] 101 (0, 0))
  n1 : bg ≠ bf
  n2 : bt ≠ bf
theorem one_othr {w : World} {b c : Nat} {o : Obj} {v : Value} (h : w.heap[b]? = some o) (hne : b ≠ c) : (w.setCell ⟨c, 0, none⟩ v).heap[b]? = some o := by
  rw [Below.heap_setCell _ _ _ _ hne]; exact h
theorem EnvD.below {w w1 : World} {bf bg bt : Nat} {a0 : Option Addr} {n0 c0 v : Nat} (h : EnvD w bf bg bt a0 n0 c0 v) (hb : Below w.heap.size w w1) : EnvD w1 bf bg bt a0 n0 c0 v :=
  ⟨one_below h.hf hb (Nat.le_refl _), one_below h.hg hb (Nat.le_refl _), one_below h.ht hb (Nat.le_refl _), h.n1, h.n2⟩
theorem EnvD.set {w : World} {bf bg bt : Nat} {a0 : Option Addr} {n0 c0 v : Nat} (h : EnvD w bf bg bt a0 n0 c0 v) (u : Nat) : EnvD (w.setCell ⟨bf, 0, none⟩ (.int .i64 (u : Int))) bf bg bt a0 n0 c0 u :=
  ⟨one_setCell h.hf, one_othr h.hg h.n1, one_othr h.ht h.n2, h.n1, h.n2⟩
theorem EnvD.drew {w : World} {bf bg bt : Nat} {a0 : Option Addr} {n0 c0 v : Nat} (h : EnvD w bf bg bt a0 n0 c0 v) : EnvD w.drew bf bg bt a0 n0 c0 v := ⟨h.hf, h.hg, h.ht, h.n1, h.n2⟩
/-- What the closure leaves. -/
def FoundI (o : Option Nat) (w0 : World) (bf bg bt : Nat) (a0 : Option Addr) (n0 c0 : Nat) (e : Ending) (w' : World) : Prop :=
  ∃ v : Nat, e = .returned (.bool o.isSome) ∧ EnvD w' bf bg bt a0 n0 c0 v ∧ (∀ b, o = some b → v = b) ∧ Below w0.heap.size w0 w'

set_option maxRecDepth 20000 in
set_option maxHeartbeats 3200000 in
theorem fds_cl (N : Nat) (os : List Int) (w0 : World) (bf bg bt : Nat) (a0 : Option Addr) (c0 : Nat) (hl : os.length ≤ 2000000) (hN : N ≤ 24) (hg0 : grpB os = true) (hNo : gord os = (N : Int)) (hI : Ints w0 a0 c0 os) (hB : w0.heap.size ≤ bf)
    : ∀ (f fr left a v : Nat) (o : Option Nat) (w : World), N - fr = f → fdO (fun b => dsB os (b : Int)) N (N - fr) left a = o → fr ≤ N → left ≤ 100 → a < 2 ^ fr → EnvD w bf bg bt a0 os.length c0 v → Below w0.heap.size w0 w →
    Calls Try.prog 201 #[.int .i64 (a : Int), .int .i64 (left : Int), .int .i64 (fr : Int), .pointer (some ⟨bf, 0, none⟩), .pointer (some ⟨bg, 0, none⟩), .pointer (some ⟨bt, 0, none⟩)] w (FoundI o w0 bf bg bt a0 os.length c0) := by
  have CO := Lib.hid (fun w h => orderOf_impl a0 c0 os w h hl)
  rw [show ordV os = gord os by simp [ordV, hg0], hNo] at CO
  have CD := Lib.hid (fun (b : Nat) w h => ids_impl a0 c0 os (b : Int) w h hl)
  clear hg0 hNo
  intro f
  induction f using Nat.strongRecOn with
  | ind f ih =>
  intro fr left a v o w hf hr hfn hleft ha env hbel
  have ha24 : a < 16777216 := by
    have h1 := Nat.pow_le_pow_right (n := 2) (by decide) (show fr ≤ 24 by omega)
    have e : (2 : Nat) ^ 24 = 16777216 := by decide
    omega
  match left, hr, hleft with
  | 0, hr, hleft =>
    rw [fdO_zero] at hr
    have env1 := env.set a
    have hbel1 := hbel.setCell (p := ⟨bf, 0, none⟩) hB (.int .i64 (a : Int))
    have h1 := hI.below hbel1 (Nat.le_refl _)
    have CD1 := Lib.hid (CD.out a _ h1)
    have q1 := cell_of_one env.hf
    have q2 := free_of_one env.hf
    have q3 := cell_of_one env1.hg
    have q4 := cell_of_one env.hg
    have n1 := env.n1
    obtain ⟨u, hu⟩ : ∃ v, v = dsV os (a : Int) := ⟨_, rfl⟩
    rw [← hu] at CD1
    have hro : (dsB os (a : Int) = true ∧ o = some a) ∨ (dsB os (a : Int) = false ∧ o = none) := by
      cases hb : dsB os (a : Int) with
      | true => rw [hb] at hr; exact .inl ⟨rfl, hr.symm⟩
      | false => rw [hb] at hr; exact .inr ⟨rfl, hr.symm⟩
    clear ih hf ha hr hu env hbel
    rcases hro with ⟨hb, rfl⟩ | ⟨hb, rfl⟩
    all_goals
      rw [hb] at CD1
      clear hb
      go_enter Try.func201, Try.ntmps201
      go_wp2_with fail
      refine CD1.out.mono ?_; rintro e w1 ⟨rfl, b1⟩
      have env2 := env1.below b1
      have hbel2 := hbel1.trans (b1.mono hbel1.size)
      clear env1 hbel1 b1 q1 q2 q3 q4
      go_wp2_with fail
      go_ret
    · exact ⟨a, rfl, env2, (fun b h => by cases h; rfl), hbel2⟩
    · exact ⟨a, rfl, env2, (fun b h => by cases h), hbel2⟩
  | left + 1, hr, hleft =>
    have IH := Lib.hid ih
    have HF := Lib.hid hf
    have HR := Lib.hid hr
    have HA := Lib.hid ha
    have hl0 : (((left + 1 : Nat) : Int) == 0) = false := by simp; omega
    obtain ⟨L, hL⟩ : ∃ L, L = left + 1 := ⟨_, rfl⟩
    have hl1 : IntKind.i64.wrap ((L : Int) - 1) = (left : Int) := by rw [wrap_in (by omega) (by omega)]; omega
    have hl2 : (L : Int) - 1 = (left : Int) := by omega
    have hl3 : IntKind.i64.wrap (left : Int) = (left : Int) := wrap_in (by omega) (by omega)
    rw [← hL] at hl0 ⊢
    have hLb : 1 ≤ L ∧ L ≤ 100 := by omega
    clear ih hf hr ha hL CD
    go_enter Try.func201, Try.ntmps201
    go_wp2_with fail
    go_loopw [12] (fun x wr => ∃ (d v : Nat), d + fr ≤ N ∧ x = .int .i64 ((N - d : Nat) : Int) ∧ Hid (fdO (fun b => dsB os (b : Int)) N d (left + 1) a = o) ∧ EnvD wr bf bg bt a0 os.length c0 v ∧ Below w0.heap.size w0 wr) (fun x _ => (N - intOf x).toNat)
    case atStart => exact ⟨N - fr, v, by omega, by rw [show N - (N - fr) = fr by omega], HR, env, hbel⟩
    case round =>
      clear env hbel
      obtain ⟨d, v, hd, rfl, HG, env, hbel⟩ := hrel
      have h1 := hI.below hbel (Nat.le_refl _)
      have q4 := cell_of_one env.hg
      match d, hd, HG with
      | 0, hd, HG =>
        have e : none = o := HG.out
        subst e
        rw [Nat.sub_zero]
        clear HG HR
        go_wp2_with fail
        refine (CO.out _ h1).mono ?_; rintro e w1 ⟨rfl, b1⟩
        have env1 := env.below b1
        have hbel1 := hbel.trans (b1.mono hbel.size)
        clear env hbel b1 q4 h1
        go_wp2_with fail
        go_ret
        exact ⟨v, rfl, env1, (fun b h => by cases h), hbel1⟩
      | d + 1, hd, HG =>
        obtain ⟨x, c, T, hx, hx1, hx2, hfx, hT, hT1, hc, hcx, hc24, hw, hor, hgo⟩ := fd_facts hN hd HA.out HG.out
        rw [← hx]
        have hlt : (x : Int) < N := by omega
        have hxN : x + 1 ≤ N := by omega
        have hx1' : IntKind.i64.wrap ((x : Int) + 1) = (x : Int) + 1 := wrap_in (by omega) (by omega)
        have HCX := Lib.hid hcx
        obtain ⟨y, hy⟩ : ∃ y, y = fdO (fun b => dsB os (b : Int)) N d left c := ⟨_, rfl⟩
        rw [← hy] at hgo
        have HY := Lib.hid hy
        have HGO := Lib.hid hgo
        clear hx HG hT hc hcx hy hgo
        go_wp2_with fail
        refine (CO.out _ h1).mono ?_; rintro e w1 ⟨rfl, b1⟩
        have env1 := env.below b1
        have hbel1 := hbel.trans (b1.mono hbel.size)
        have q5 := cell_of_one env1.ht
        have CI := Lib.hid (IH.out d (by have := HF.out; omega) (x + 1) left c v y w1.drew (by omega) (by rw [show N - (x + 1) = d by omega]; exact HY.out.symm) (by omega) (by omega) HCX.out env1.drew hbel1.drew)
        rw [show ((x + 1 : Nat) : Int) = (x : Int) + 1 by omega] at CI
        clear b1 hbel h1 env q4 env1 hbel1
        cases y with
        | some b =>
          have e : some b = o := HGO.out
          subst e
          clear HGO HR HY
          go_wp2_with fail
          go_region_held3 (fun w' => w'.cell? ⟨bt, 0, none⟩ = some (.func (.func 201) #[] #[.pointer (some ⟨bf, 0, none⟩), .pointer (some ⟨bg, 0, none⟩), .pointer (some ⟨bt, 0, none⟩)])) (assumption) (first
            | (go_at_call 201; refine CI.out.mono ?_; rintro e w2 ⟨v2, rfl, env2, hv, hbel2⟩; have q6 := cell_of_one env2.ht))
          go_wp2_with fail
          go_ret
          exact ⟨v2, rfl, env2, hv, hbel2⟩
        | none =>
          have HGO2 : Hid (fdO (fun b => dsB os (b : Int)) N d (left + 1) a = o) := Lib.hid HGO.out
          clear HGO HY
          go_wp2_with fail
          go_region_held3 (fun w' => w'.cell? ⟨bt, 0, none⟩ = some (.func (.func 201) #[] #[.pointer (some ⟨bf, 0, none⟩), .pointer (some ⟨bg, 0, none⟩), .pointer (some ⟨bt, 0, none⟩)])) (assumption) (first
            | (go_at_call 201; refine CI.out.mono ?_; rintro e w2 ⟨v2, rfl, env2, hv, hbel2⟩; have q6 := cell_of_one env2.ht))
          clear hv q5 q6
          go_wp2_with fail
          go_roundw
          case rel => exact ⟨d, v2, by omega, by rw [show N - d = x + 1 by omega]; go_num, HGO2, env2, hbel2⟩
          case measure => simp [intOf]; omega

def fdC (os : List Int) (n : Int) : Bool := grpB os && (inB (gn os) 2 16 && inB n 2 6)
noncomputable def fdF (os : List Int) (n : Int) : Option Nat := if fdC os n = true then fdO (fun b => dsB os (b : Int)) (gn os) (gn os - 1) (n - 1).toNat 1 else none

set_option maxRecDepth 20000 in
set_option maxHeartbeats 3200000 in
theorem fds_impl (a0 : Option Addr) (c0 : Nat) (os : List Int) (n : Int) (w : World) (h0 : Ints w a0 c0 os) (hl : os.length ≤ 2000000) :
    Calls Try.prog 42 #[.agg #[.slice a0 os.length c0], .int .i64 n] w fun e w' => e = .returned (.tuple #[.int .i64 ((fdF os n).getD 0 : Int), .bool (fdF os n).isSome]) ∧ Below w.heap.size w w' := by
  have hb0 := (Below.refl w.heap.size w).alloc (Nat.le_refl _) (.cells #[.slice a0 os.length c0] 26)
  have h1 := h0.below hb0 (Nat.le_refl _)
  have C := Lib.hid (fun w h => orderOf_impl a0 c0 os w h hl)
  obtain ⟨V, hV⟩ : ∃ V, V = ordV os := ⟨_, rfl⟩
  rw [← hV] at C
  cases hin : inB V 2 16 with
  | false =>
    have e : fdF os n = none := by
      have : fdC os n = false := by
        cases hg : grpB os with
        | false => simp [fdC, hg]
        | true =>
          obtain ⟨g2, g3, g4, g5, g6⟩ := grp_gn hg
          have hv : V = (gn os : Int) := by rw [hV, g5]; simp [ordV, hg]
          rw [hv] at hin
          simp [fdC, hin]
      simp [fdF, this]
    rw [e]
    have HI := Lib.hid hin
    clear e hin hV
    go_enter Try.func42, Try.ntmps42
    go_wp2_with fail
    refine (C.out _ h1).mono ?_; rintro e w1 ⟨rfl, b1⟩
    go_wp2_with fail
    refine (within_is V 2 16 false HI.out _).mono ?_; rintro e w' ⟨rfl, rfl⟩
    go_wp2_with fail
    go_ret2
    exact ⟨rfl, nx hb0 b1⟩
  | true =>
    obtain ⟨v1, v2⟩ := inB_true.1 hin
    have hg : grpB os = true := by
      cases hg : grpB os with
      | true => rfl
      | false => rw [hV] at v1; simp [ordV, hg] at v1
    obtain ⟨g2, g3, g4, g5, g6⟩ := grp_gn hg
    have hv : V = (gn os : Int) := by rw [hV, g5]; simp [ordV, hg]
    have HI := Lib.hid hin
    cases hin2 : inB n 2 6 with
    | false =>
      have e : fdF os n = none := by
        have : fdC os n = false := by simp [fdC, hin2]
        simp [fdF, this]
      rw [e]
      have HI2 := Lib.hid hin2
      clear e hin hin2 hV hv g2 g3 g4 g5 g6 hg
      go_enter Try.func42, Try.ntmps42
      go_wp2_with fail
      refine (C.out _ h1).mono ?_; rintro e w1 ⟨rfl, b1⟩
      go_wp2_with fail
      refine (within_is V 2 16 true HI.out _).mono ?_; rintro e w' ⟨rfl, rfl⟩
      go_wp2_with fail
      refine (within_is n 2 6 false HI2.out _).mono ?_; rintro e w' ⟨rfl, rfl⟩
      go_wp2_with fail
      go_ret2
      exact ⟨rfl, nx hb0 b1⟩
    | true =>
      obtain ⟨n1, n2⟩ := inB_true.1 hin2
      have hin' := hin
      rw [hv] at hin'
      have e : fdF os n = fdO (fun b => dsB os (b : Int)) (gn os) (gn os - 1) (n - 1).toNat 1 := by
        have : fdC os n = true := by simp [fdC, hin', hin2, hg]
        rw [fdF, if_pos this]
      rw [e]
      obtain ⟨left, hleft⟩ := Int.eq_ofNat_of_zero_le (show 0 ≤ n - 1 by omega)
      rw [hleft, Int.toNat_natCast]
      have HI2 := Lib.hid hin2
      obtain ⟨o, ho⟩ : ∃ o, o = fdO (fun b => dsB os (b : Int)) (gn os) (gn os - 1) left 1 := ⟨_, rfl⟩
      rw [← ho]
      have CF := Lib.hid (fun w1 h1 => fds_cl (gn os) os w1 w1.heap.size w.heap.size (w1.heap.size + 1) a0 c0 hl g4 hg g5.symm h1 (Nat.le_refl _) (gn os - 1) 1 left 1 0 o)
      have HO := Lib.hid ho.symm
      have hl2 : IntKind.i64.wrap (n - 1) = (left : Int) := by rw [wrap_in (by omega) (by omega)]; exact hleft
      have g3' : 1 ≤ gn os := g3
      have hlb : left ≤ 100 := by omega
      have HB := Lib.hid (show ∀ b, o = some b → b < 16777216 from fun b hb => by
        have h1 := fdO_lt (fun b => dsB os (b : Int)) (gn os) (gn os - 1) left 1 b (by omega) (by rw [show gn os - (gn os - 1) = 1 by omega]; decide) (by rw [← ho]; exact hb)
        have h2 := Nat.pow_le_pow_right (n := 2) (by decide) g4
        have e : (2 : Nat) ^ 24 = 16777216 := by decide
        omega)
      clear e hin hin2 hin' hV hv g2 g3 g4 g5 g6 hg ho
      go_enter Try.func42, Try.ntmps42
      go_wp2_with fail
      refine (C.out _ h1).mono ?_; rintro e w1 ⟨rfl, b1⟩
      have q0 : w1.heap[w.heap.size]? = some (.cells #[.slice a0 os.length c0] 26 (0, 0)) := one_below (new_at rfl) b1 (Nat.le_refl _)
      have z1 : w.heap.size < w1.heap.size := lt_of_block q0
      have h2 := h1.below b1 (Nat.le_refl _)
      have hb1 := nx hb0 b1
      have CF1 := Lib.hid (fun w => CF.out w1 h2 w (by first | rfl | trivial) HO.out g3' hlb (by decide))
      clear CF C h1 hb0 b1
      go_wp2_with fail
      refine (within_is V 2 16 true HI.out _).mono ?_; rintro e w' ⟨rfl, rfl⟩
      go_wp2_with fail
      refine (within_is n 2 6 true HI2.out _).mono ?_; rintro e w' ⟨rfl, rfl⟩
      go_wp2_with fail
      refine (CF1.out _ ?env ?bel).mono ?_
      case env => exact ⟨one_alloc (new_at (by simp)), one_alloc (one_alloc q0), new_at (by simp), by omega, by omega⟩
      case bel => exact ((Below.refl _ _).alloc (Nat.le_refl _) _).alloc (by simp) _
      rintro e w2 ⟨v, rfl, env, hv, hbel⟩
      have q1 := cell_of_one env.hf
      have hbf := hb1.trans (hbel.mono (Nat.le_of_lt z1))
      clear env hbel CF1
      cases o with
      | none =>
        clear hv
        go_wp2_with fail
        go_ret2
        exact ⟨rfl, hbf⟩
      | some b =>
        have e := hv b rfl
        subst e
        clear hv
        go_wp2_with fail
        go_ret2
        exact ⟨rfl, hbf⟩

set_option maxRecDepth 20000 in
set_option maxHeartbeats 3200000 in
theorem fds_spec (a0 : Option Addr) (c0 : Nat) (os : List Int) (n : Int) (w : World) (h0 : Ints w a0 c0 os) (hl : os.length ≤ 2000000) :
    Calls Try.prog 43 #[.agg #[.slice a0 os.length c0], .int .i64 n] w fun e w' => e = .returned (.tuple #[.int .i64 ((fdF os n).getD 0 : Int), .bool (fdF os n).isSome]) ∧ Below w.heap.size w w' := by
  have hb0 := (Below.refl w.heap.size w).alloc (Nat.le_refl _) (.cells #[.slice a0 os.length c0] 26)
  have h1 := h0.below hb0 (Nat.le_refl _)
  have C := Lib.hid (fun w h => isGroup_spec a0 c0 os w h hl)
  cases hg : grpB os with
  | false =>
    have e : fdF os n = none := by
      have : fdC os n = false := by simp [fdC, hg]
      simp [fdF, this]
    rw [e]
    rw [hg] at C
    clear hg e
    go_enter Try.func43, Try.ntmps43
    go_wp2_with fail
    refine (C.out _ h1).mono ?_; rintro e w1 ⟨rfl, b1⟩
    go_wp2_with fail
    go_ret2
    exact ⟨rfl, nx hb0 b1⟩
  | true =>
    obtain ⟨g2, g3, g4, g5, g6⟩ := grp_gn hg
    rw [hg] at C
    have C2 := Lib.hid (fun w h => l2Order_any a0 c0 os w h hg)
    rw [← g5] at C2
    by_cases h16 : gn os ≤ 16
    · by_cases h2 : 2 ≤ gn os
      · have hin : inB (gn os : Int) 2 16 = true := inB_true.2 ⟨by omega, by omega⟩
        cases hin2 : inB n 2 6 with
        | false =>
          have e : fdF os n = none := by
            have : fdC os n = false := by simp [fdC, hin2]
            simp [fdF, this]
          rw [e]
          have HI2 := Lib.hid hin2
          obtain ⟨N, hN⟩ : ∃ N, N = gn os := ⟨_, rfl⟩
          rw [← hN] at C2 h16 h2
          clear e hin hin2 g2 g3 g4 g5 g6 hg hN
          go_enter Try.func43, Try.ntmps43
          go_wp2_with fail
          refine (C.out _ h1).mono ?_; rintro e w1 ⟨rfl, b1⟩
          have q1 := box_cell b1 (by simp)
          have z1 : w.heap.size < w1.heap.size := by have := b1.size; simp at this; omega
          have k1 := h1.below b1 (Nat.le_refl _)
          have hb1 := nx hb0 b1
          go_wp2_with fail
          refine (C2.out _ k1).mono ?_; rintro e w2 ⟨rfl, b2⟩
          have q2 := (b2.cell (p := ⟨w.heap.size, 0, none⟩) z1).trans q1
          have z2 := Nat.lt_of_lt_of_le z1 b2.size
          have k2 := k1.below b2 (Nat.le_refl _)
          have hb2 := nx hb1 b2
          go_wp2_with fail
          refine (C2.out _ k2).mono ?_; rintro e w3 ⟨rfl, b3⟩
          have q3 := (b3.cell (p := ⟨w.heap.size, 0, none⟩) z2).trans q2
          have k3 := k2.below b3 (Nat.le_refl _)
          have hb3 := nx hb2 b3
          clear b1 b2 b3 q1 q2 z1 z2 k1 k2 hb0 hb1 hb2 h1 C C2
          go_wp2_with fail
          refine (l1In_is n 2 6 false HI2.out _).mono ?_; rintro e w' ⟨rfl, rfl⟩
          go_wp2_with fail
          go_ret2
          exact ⟨rfl, hb3⟩
        | true =>
          obtain ⟨n1, n2⟩ := inB_true.1 hin2
          have e : fdF os n = fdO (fun b => dsB os (b : Int)) (gn os) (gn os - 1) (n - 1).toNat 1 := by
            have : fdC os n = true := by simp [fdC, hin, hin2, hg]
            rw [fdF, if_pos this]
          rw [e]
          obtain ⟨left, hleft⟩ := Int.eq_ofNat_of_zero_le (show 0 ≤ n - 1 by omega)
          rw [hleft, Int.toNat_natCast]
          have HI2 := Lib.hid hin2
          obtain ⟨o, ho⟩ : ∃ o, o = fdO (fun b => dsB os (b : Int)) (gn os) (gn os - 1) left 1 := ⟨_, rfl⟩
          rw [← ho]
          have hl2 : IntKind.i64.wrap (n - 1) = (left : Int) := by rw [wrap_in (by omega) (by omega)]; exact hleft
          have CF := Lib.hid (fun w h => l22Find_any (gn os) os a0 c0 hl g4 hg g5.symm (gn os - 1) 1 left 1 o w rfl ho.symm (by omega) (by omega) (by decide) h)
          obtain ⟨N, hN⟩ : ∃ N, N = gn os := ⟨_, rfl⟩
          rw [← hN] at C2 h16 h2
          clear e hin hin2 g2 g3 g4 g5 g6 hg hN ho
          go_enter Try.func43, Try.ntmps43
          go_wp2_with fail
          refine (C.out _ h1).mono ?_; rintro e w1 ⟨rfl, b1⟩
          have q1 := box_cell b1 (by simp)
          have z1 : w.heap.size < w1.heap.size := by have := b1.size; simp at this; omega
          have k1 := h1.below b1 (Nat.le_refl _)
          have hb1 := nx hb0 b1
          go_wp2_with fail
          refine (C2.out _ k1).mono ?_; rintro e w2 ⟨rfl, b2⟩
          have q2 := (b2.cell (p := ⟨w.heap.size, 0, none⟩) z1).trans q1
          have z2 := Nat.lt_of_lt_of_le z1 b2.size
          have k2 := k1.below b2 (Nat.le_refl _)
          have hb2 := nx hb1 b2
          go_wp2_with fail
          refine (C2.out _ k2).mono ?_; rintro e w3 ⟨rfl, b3⟩
          have q3 := (b3.cell (p := ⟨w.heap.size, 0, none⟩) z2).trans q2
          have k3 := k2.below b3 (Nat.le_refl _)
          have hb3 := nx hb2 b3
          clear b1 b2 b3 q1 q2 z1 z2 k1 k2 hb0 hb1 hb2 h1 C C2
          go_wp2_with fail
          refine (l1In_is n 2 6 true HI2.out _).mono ?_; rintro e w' ⟨rfl, rfl⟩
          go_wp2_with fail
          refine (CF.out _ k3).mono ?_; rintro e w4 ⟨v, rfl, hv24, hv, b4⟩
          clear CF
          cases o with
          | none =>
            clear hv
            go_wp2_with fail
            go_ret2
            exact ⟨rfl, nx hb3 b4⟩
          | some b =>
            have e := hv b rfl
            subst e
            clear hv
            go_wp2_with fail
            go_ret2
            exact ⟨rfl, nx hb3 b4⟩
      · have e : fdF os n = none := by
          have hin : inB (gn os : Int) 2 16 = false := by
            cases hc : inB (gn os : Int) 2 16 with
            | false => rfl
            | true => have := inB_true.1 hc; omega
          have : fdC os n = false := by simp [fdC, hin]
          simp [fdF, this]
        rw [e]
        obtain ⟨N, hN⟩ : ∃ N, N = gn os := ⟨_, rfl⟩
        rw [← hN] at C2 h16 h2
        clear e g2 g3 g4 g5 g6 hg hN
        go_enter Try.func43, Try.ntmps43
        go_wp2_with fail
        refine (C.out _ h1).mono ?_; rintro e w1 ⟨rfl, b1⟩
        have q1 := box_cell b1 (by simp)
        have z1 : w.heap.size < w1.heap.size := by have := b1.size; simp at this; omega
        have k1 := h1.below b1 (Nat.le_refl _)
        have hb1 := nx hb0 b1
        go_wp2_with fail
        refine (C2.out _ k1).mono ?_; rintro e w2 ⟨rfl, b2⟩
        have q2 := (b2.cell (p := ⟨w.heap.size, 0, none⟩) z1).trans q1
        have z2 := Nat.lt_of_lt_of_le z1 b2.size
        have k2 := k1.below b2 (Nat.le_refl _)
        have hb2 := nx hb1 b2
        go_wp2_with fail
        refine (C2.out _ k2).mono ?_; rintro e w3 ⟨rfl, b3⟩
        have q3 := (b3.cell (p := ⟨w.heap.size, 0, none⟩) z2).trans q2
        have k3 := k2.below b3 (Nat.le_refl _)
        have hb3 := nx hb2 b3
        clear b1 b2 b3 q1 q2 z1 z2 k1 k2 hb0 hb1 hb2 h1 C C2
        go_wp2_with fail
        go_ret2
        exact ⟨rfl, hb3⟩
    · have e : fdF os n = none := by
        have hin : inB (gn os : Int) 2 16 = false := by
          cases hc : inB (gn os : Int) 2 16 with
          | false => rfl
          | true => have := inB_true.1 hc; omega
        have : fdC os n = false := by simp [fdC, hin]
        simp [fdF, this]
      rw [e]
      obtain ⟨N, hN⟩ : ∃ N, N = gn os := ⟨_, rfl⟩
      rw [← hN] at C2 h16 g4
      clear e g2 g3 g5 g6 hg hN
      go_enter Try.func43, Try.ntmps43
      go_wp2_with fail
      refine (C.out _ h1).mono ?_; rintro e w1 ⟨rfl, b1⟩
      have q1 := box_cell b1 (by simp)
      have k2 := h1.below b1 (Nat.le_refl _)
      have hb1 := nx hb0 b1
      go_wp2_with fail
      refine (C2.out _ k2).mono ?_; rintro e w2 ⟨rfl, b2⟩
      go_wp2_with fail
      go_ret2
      exact ⟨rfl, nx hb1 b2⟩
end Go.Proofs.Ytbidkjhgodkamaa
