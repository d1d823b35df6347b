/-
Tables of sums, plain: the number of pairs with a sum; their squares; sets of Sidon; difference sets. No condition.
-/
import Derived.Test.YtokpgbpdmfibjaaCnp
import Derived.Test.YtokpgbpdmfibjaaCor
import Derived.Test.YtokpgbpdmfibjaaFds
namespace Go.Proofs.Ytokpgbpdmfibjaa
open Go.RowKit Go.ChangeShapes
set_option linter.unusedVariables false

theorem nL_nil (f : Int → Nat) : nL f [] = 0 := rfl
theorem nL_cons (f : Int → Nat) (x : Int) (l : List Int) : nL f (x :: l) = f x + nL f l := by simp [nL]
theorem nL_congr {f g : Int → Nat} : ∀ {l : List Int}, (∀ x ∈ l, f x = g x) → nL f l = nL g l
  | [], _ => rfl
  | x :: l, h => by rw [nL_cons, nL_cons, h x (List.mem_cons_self ..), nL_congr (l := l) fun y hy => h y (List.mem_cons_of_mem _ hy)]
theorem nL_add (f g : Int → Nat) : ∀ l : List Int, nL (fun x => f x + g x) l = nL f l + nL g l
  | [] => rfl
  | x :: l => by rw [nL_cons, nL_cons, nL_cons, nL_add f g l]; omega
theorem nL_mul (f : Int → Nat) (c : Nat) : ∀ l : List Int, nL (fun x => c * f x) l = c * nL f l
  | [] => rfl
  | x :: l => by rw [nL_cons, nL_cons, nL_mul f c l, Nat.mul_add]
theorem ns_mulc (f : Nat → Nat) (c : Nat) : ∀ k, ns (fun x => c * f x) k = c * ns f k
  | 0 => rfl
  | k + 1 => by
    show ns (fun x => c * f x) k + c * f k = c * (ns f k + f k)
    rw [ns_mulc f c k, Nat.mul_add]
theorem nL_zero {f : Int → Nat} {l : List Int} (h : ∀ x ∈ l, f x = 0) : nL f l = 0 := by rw [nL_const h]; simp
/-- One element of a list without twins. -/
theorem nL_pick {u : Int} : ∀ {l : List Int}, l.Nodup → nL (fun y => nat1 (y == u)) l = nat1 (decide (u ∈ l))
  | [], _ => by simp [nL, nat1]
  | x :: l, h => by
    obtain ⟨h1, h2⟩ := List.nodup_cons.1 h
    rw [nL_cons, nL_pick h2]
    by_cases e : x = u
    · subst e
      simp [nat1, h1]
    · have e2 : (x == u) = false := by simpa using e
      rw [e2]
      have e3 : ¬ u = x := fun h => e h.symm
      simp [nat1, e3]
theorem nL_le_one {P : Int → Bool} : ∀ {l : List Int}, l.Nodup → (∀ x ∈ l, ∀ y ∈ l, P x = true → P y = true → x = y) → nL (fun x => nat1 (P x)) l ≤ 1
  | [], _, _ => by simp [nL]
  | x :: l, h, hu => by
    obtain ⟨h1, h2⟩ := List.nodup_cons.1 h
    rw [nL_cons]
    by_cases hx : P x = true
    · have : nL (fun x => nat1 (P x)) l = 0 := nL_zero fun y hy => by
        cases hp : P y with
        | false => rfl
        | true =>
          have := hu x (List.mem_cons_self ..) y (List.mem_cons_of_mem _ hy) hx hp
          subst this; exact absurd hy h1
      rw [this, hx]; decide
    · have hx' : P x = false := by simpa using hx
      rw [hx']
      have := nL_le_one h2 (fun a ha b hb => hu a (List.mem_cons_of_mem _ ha) b (List.mem_cons_of_mem _ hb))
      simpa [nat1] using this

/-- The number of pairs with a sum. -/
def tN (os : List Int) (A B : List Int) (z : Nat) : Nat := nL (fun x => nL (fun y => nat1 (gadd os x.toNat y.toNat == z)) B) A
theorem inc_get {t : List Int} {z i : Nat} (hz : z < t.length) (hi : i < t.length) : (inc t z).getD i 0 = t.getD i 0 + nat1 (z == i) := by
  unfold inc
  rw [List.getD_eq_getElem?_getD, List.getElem?_set]
  by_cases e : z = i
  · subst e
    simp [hz, nat1]
  · simp [e, nat1]
theorem rowT_get {os : List Int} (hos : ordsIn os = true) {x i : Nat} : ∀ (l t : List Int), t.length = gn os → i < gn os → (rowT os x l t).getD i 0 = t.getD i 0 + (nL (fun y => nat1 (gadd os x y.toNat == i)) l : Nat)
  | [], t, _, _ => by simp [rowT, nL]
  | y :: l, t, ht, hi => by
    have hlt := gadd_lt' hos x y.toNat
    have ih := rowT_get hos (x := x) (i := i) l (inc t (gadd os x y.toNat)) (by rw [inc_len, ht]) hi
    show (rowT os x l (inc t (gadd os x y.toNat))).getD i 0 = _
    rw [ih, inc_get (by omega) (by omega), nL_cons]
    push_cast
    omega
theorem tabT_get {os : List Int} (hos : ordsIn os = true) {B : List Int} {i : Nat} : ∀ (l t : List Int), t.length = gn os → i < gn os → (tabT os l B t).getD i 0 = t.getD i 0 + (tN os l B i : Nat)
  | [], t, _, _ => by simp [tabT, tN, nL]
  | x :: l, t, ht, hi => by
    have ih := tabT_get hos (B := B) (i := i) l (rowT os x.toNat B t) (by rw [rowT_len, ht]) hi
    show (tabT os l B (rowT os x.toNat B t)).getD i 0 = _
    rw [ih, rowT_get hos B t ht hi]
    unfold tN
    rw [nL_cons]
    push_cast
    omega
theorem tbl_get {os : List Int} (hos : ordsIn os = true) (a b : Nat) {i : Nat} (hi : i < gn os) : (tbl os a b).getD i 0 = (tN os (mems a) (mems b) i : Nat) := by
  unfold tbl
  rw [tabT_get hos _ _ (by simp) hi]
  simp [List.getD_eq_getElem?_getD, hi]
theorem ns_pick {u : Nat} : ∀ k, ns (fun z => nat1 (u == z)) k = nat1 (decide (u < k))
  | 0 => by simp [ns, nat1]
  | k + 1 => by
    show ns (fun z => nat1 (u == z)) k + nat1 (u == k) = _
    rw [ns_pick k]
    by_cases e : u = k
    · subst e; simp [nat1]
    · by_cases h : u < k
      · simp [nat1, e, h, show u < k + 1 by omega]
      · simp [nat1, e, h, show ¬ u < k + 1 by omega]
/-- A sum over sums: pair by pair. -/
theorem tN_ns {os : List Int} (hos : ordsIn os = true) (A B : List Int) (g : Nat → Nat) : ns (fun z => g z * tN os A B z) (gn os) = nL (fun x => nL (fun y => g (gadd os x.toNat y.toNat)) B) A := by
  have h1 : (fun z => g z * tN os A B z) = fun z => nL (fun x => (fun (x : Int) z => nL (fun y => g z * nat1 (gadd os x.toNat y.toNat == z)) B) x z) A := by
    funext z
    unfold tN
    rw [← nL_mul]
    exact nL_congr fun x _ => by rw [← nL_mul]
  rw [h1, nL_ns]
  refine nL_congr fun x _ => ?_
  have h2 : (fun z => nL (fun y => g z * nat1 (gadd os x.toNat y.toNat == z)) B) = fun z => nL (fun y => (fun (y : Int) z => g z * nat1 (gadd os x.toNat y.toNat == z)) y z) B := rfl
  show ns (fun z => nL (fun y => g z * nat1 (gadd os x.toNat y.toNat == z)) B) (gn os) = _
  rw [h2, nL_ns]
  refine nL_congr fun y _ => ?_
  have hlt := gadd_lt' hos x.toNat y.toNat
  obtain ⟨u, hu⟩ : ∃ u, u = gadd os x.toNat y.toNat := ⟨_, rfl⟩
  simp only [← hu] at hlt ⊢
  have h3 : (fun z => g z * nat1 (u == z)) = fun z => g u * nat1 (u == z) := by
    funext z
    by_cases e : u = z
    · subst e; rfl
    · simp [nat1, e]
  rw [h3, ns_mulc, ns_pick]
  simp [hlt, nat1]
theorem tN_all {os : List Int} (hos : ordsIn os = true) (A B : List Int) : ns (tN os A B) (gn os) = A.length * B.length := by
  have h := tN_ns hos A B (fun _ => 1)
  simp only [Nat.one_mul] at h
  rw [h, nL_const (c := B.length)]
  intro x _
  rw [nL_const (c := 1) (fun _ _ => rfl), Nat.mul_one]
/-- The squares of a table, added up. -/
def sqL (t : List Int) : Int := t.foldl (fun s v => s + v * v) 0
theorem sqL_take {t : List Int} {k : Nat} (h : k < t.length) : sqL (t.take (k + 1)) = sqL (t.take k) + t[k] * t[k] := by
  unfold sqL; rw [List.take_succ_eq_append_getElem h, List.foldl_append]; rfl
theorem sqL_ns {t : List Int} {g : Nat → Nat} : ∀ k, k ≤ t.length → (∀ i, i < k → t.getD i 0 = (g i : Nat)) → sqL (t.take k) = (ns (fun i => g i * g i) k : Nat)
  | 0, _, _ => by simp [sqL, ns]
  | k + 1, hk, h => by
    have ih := sqL_ns k (by omega) (fun i hi => h i (by omega))
    have e : t[k] = (g k : Nat) := by rw [← h k (by omega)]; simp [List.getD, show k < t.length by omega]
    rw [sqL_take (by omega), ih, e]
    show _ = ((ns (fun i => g i * g i) k + g k * g k : Nat) : Int)
    push_cast
    rfl
/-- The energy: pairs of pairs with the same sum. -/
theorem energy_eq {os : List Int} (hos : ordsIn os = true) (a b : Nat) : sqL (tbl os a b) = (nL (fun x => nL (fun y => tN os (mems a) (mems b) (gadd os x.toNat y.toNat)) (mems b)) (mems a) : Nat) := by
  have hl := tbl_len os a b
  have h := sqL_ns (t := tbl os a b) (g := tN os (mems a) (mems b)) (gn os) (by omega) (fun i hi => tbl_get hos a b hi)
  rw [List.take_of_length_le (by omega)] at h
  rw [h, ← tN_ns hos]
theorem mems_in {a n : Nat} (hn : n ≤ 64) (ha : a < 2 ^ n) {x : Int} (hx : x ∈ mems a) : ∃ i : Nat, x = (i : Int) ∧ i < n ∧ a.testBit i = true := by
  obtain ⟨i, rfl, _, hb⟩ := memsTo_mem.1 hx
  exact ⟨i, rfl, bit_lt ha hb, hb⟩
/-- In a set of Sidon a sum of two comes of the two alone. -/
theorem sid_tN {os : List Int} (hg : grpB os = true) {a : Nat} (ha : a < 2 ^ gn os) (hs : sdB os a = true) {x y : Int} (hx : x ∈ mems a) (hy : y ∈ mems a) :
    tN os (mems a) (mems a) (gadd os x.toNat y.toNat) + nat1 (x == y) = 2 := by
  obtain ⟨g2, g3, g4, g5, g6⟩ := grp_gn hg
  have hE := (sidE_iff (by simpa using lt64 (by omega : gn os ≤ 64) ha)).1 (sdB_true.1 hs)
  have hnd := mems_nodup a
  have key : ∀ u ∈ mems a, ∀ v ∈ mems a, gadd os u.toNat v.toNat = gadd os x.toNat y.toNat → (u = x ∧ v = y) ∨ (u = y ∧ v = x) := by
    intro u hu v hv e
    obtain ⟨i, rfl, _, hi⟩ := mems_in (by omega) ha hx
    obtain ⟨j, rfl, _, hj⟩ := mems_in (by omega) ha hy
    obtain ⟨k, rfl, _, hk⟩ := mems_in (by omega) ha hu
    obtain ⟨m, rfl, _, hm⟩ := mems_in (by omega) ha hv
    simp only [Int.toNat_natCast] at e
    rcases Nat.le_total k m with h1 | h1 <;> rcases Nat.le_total i j with h2 | h2
    · obtain ⟨rfl, rfl⟩ := hE k m i j hk hm hi hj h1 h2 e
      exact .inl ⟨rfl, rfl⟩
    · rw [gadd_comm os i j] at e
      obtain ⟨rfl, rfl⟩ := hE k m j i hk hm hj hi h1 h2 e
      exact .inr ⟨rfl, rfl⟩
    · rw [gadd_comm os k m] at e
      obtain ⟨rfl, rfl⟩ := hE m k i j hm hk hi hj h1 h2 e
      exact .inr ⟨rfl, rfl⟩
    · rw [gadd_comm os k m, gadd_comm os i j] at e
      obtain ⟨rfl, rfl⟩ := hE m k j i hm hk hj hi h1 h2 e
      exact .inl ⟨rfl, rfl⟩
  unfold tN
  by_cases exy : x = y
  · subst exy
    have h1 : nL (fun u => nL (fun v => nat1 (gadd os u.toNat v.toNat == gadd os x.toNat x.toNat)) (mems a)) (mems a) = nL (fun u => nat1 (u == x)) (mems a) := nL_congr fun u hu => by
      by_cases e : u = x
      · subst e
        have h2 : nL (fun v => nat1 (gadd os u.toNat v.toNat == gadd os u.toNat u.toNat)) (mems a) = nL (fun v => nat1 (v == u)) (mems a) := nL_congr fun v hv => by
          congr 1
          rw [Bool.eq_iff_iff, beq_iff_eq, beq_iff_eq]
          constructor
          · intro h
            rcases key u hu v hv h with ⟨_, h⟩ | ⟨_, h⟩ <;> exact h
          · intro h; rw [h]
        rw [h2, nL_pick hnd]
        simp [nat1, hu]
      · have e2 : (u == x) = false := by simpa using e
        rw [e2, nL_zero]
        · rfl
        · intro v hv
          have : (gadd os u.toNat v.toNat == gadd os x.toNat x.toNat) = false := by
            cases hb : (gadd os u.toNat v.toNat == gadd os x.toNat x.toNat) with
            | false => rfl
            | true =>
              rw [beq_iff_eq] at hb
              rcases key u hu v hv hb with ⟨h, _⟩ | ⟨h, _⟩ <;> exact absurd h e
          rw [this]; rfl
    rw [h1, nL_pick hnd]
    simp [nat1, hx]
  · have h1 : nL (fun u => nL (fun v => nat1 (gadd os u.toNat v.toNat == gadd os x.toNat y.toNat)) (mems a)) (mems a) = nL (fun u => nat1 (u == x) + nat1 (u == y)) (mems a) := nL_congr fun u hu => by
      by_cases e : u = x
      · subst e
        have h2 : nL (fun v => nat1 (gadd os u.toNat v.toNat == gadd os u.toNat y.toNat)) (mems a) = nL (fun v => nat1 (v == y)) (mems a) := nL_congr fun v hv => by
          congr 1
          rw [Bool.eq_iff_iff, beq_iff_eq, beq_iff_eq]
          constructor
          · intro h
            rcases key u hu v hv h with ⟨_, h⟩ | ⟨h, _⟩
            · exact h
            · exact absurd h exy
          · intro h; rw [h]
        rw [h2, nL_pick hnd]
        simp [nat1, hy, exy]
      · by_cases e3 : u = y
        · subst e3
          have h2 : nL (fun v => nat1 (gadd os u.toNat v.toNat == gadd os x.toNat u.toNat)) (mems a) = nL (fun v => nat1 (v == x)) (mems a) := nL_congr fun v hv => by
            congr 1
            rw [Bool.eq_iff_iff, beq_iff_eq, beq_iff_eq]
            constructor
            · intro h
              rcases key u hu v hv h with ⟨h, _⟩ | ⟨_, h⟩
              · exact absurd h e
              · exact h
            · intro h; rw [h, gadd_comm]
          rw [h2, nL_pick hnd]
          simp [nat1, hx, e]
        · rw [nL_zero]
          · simp [nat1, e, e3]
          · intro v hv
            have : (gadd os u.toNat v.toNat == gadd os x.toNat y.toNat) = false := by
              cases hb : (gadd os u.toNat v.toNat == gadd os x.toNat y.toNat) with
              | false => rfl
              | true =>
                rw [beq_iff_eq] at hb
                rcases key u hu v hv hb with ⟨h, _⟩ | ⟨h, _⟩
                · exact absurd h e
                · exact absurd h e3
            rw [this]; rfl
    rw [h1, nL_add, nL_pick hnd, nL_pick hnd]
    simp [nat1, hx, hy, exy]
/-- The energy of a set of Sidon. -/
theorem sid_energy {os : List Int} (hg : grpB os = true) {a : Nat} (ha : a < 2 ^ gn os) (hs : sdB os a = true) : sqL (tbl os a a) + (popc a : Int) = 2 * ((popc a : Int) * popc a) := by
  obtain ⟨g2, g3, g4, g5, g6⟩ := grp_gn hg
  rw [energy_eq g2]
  have h1 : nL (fun x => nL (fun y => tN os (mems a) (mems a) (gadd os x.toNat y.toNat)) (mems a)) (mems a) + nL (fun x => nL (fun y => nat1 (x == y)) (mems a)) (mems a) = 2 * (popc a * popc a) := by
    rw [← nL_add, nL_const (c := popc a * 2), mems_length]
    · rw [← Nat.mul_assoc, Nat.mul_comm]
    · intro x hx
      rw [← nL_add, nL_const (c := 2), mems_length]
      intro y hy
      exact sid_tN hg ha hs hx hy
  have h2 : nL (fun x => nL (fun y => nat1 (x == y)) (mems a)) (mems a) = popc a := by
    rw [nL_const (c := 1), mems_length, Nat.mul_one]
    intro x hx
    have : nL (fun y => nat1 (x == y)) (mems a) = nL (fun y => nat1 (y == x)) (mems a) := nL_congr fun y _ => by rw [Bool.beq_comm]
    rw [this, nL_pick (mems_nodup a)]
    simp [nat1, hx]
  rw [h2] at h1
  have h3 : ((popc a * popc a : Nat) : Int) = (popc a : Int) * popc a := by push_cast; rfl
  omega
/-- The number of pairs with a difference: one element of each pair tells the other. -/
theorem tN_one {os : List Int} (hg : grpB os = true) {A : List Int} {b z : Nat} (hb : b < 2 ^ gn os) (hz : z < gn os) : tN os A (mems b) z = nL (fun x => nat1 (b.testBit (gadd os (gneg os x.toNat) z))) A := by
  obtain ⟨g2, g3, g4, g5, g6⟩ := grp_gn hg
  unfold tN
  refine nL_congr fun x _ => ?_
  have h : nL (fun y => nat1 (gadd os x.toNat y.toNat == z)) (mems b) = nL (fun y => nat1 (y == (gadd os (gneg os x.toNat) z : Nat))) (mems b) := nL_congr fun y hy => by
    obtain ⟨j, rfl, hj, _⟩ := mems_in (by omega) hb hy
    congr 1
    rw [Bool.eq_iff_iff, beq_iff_eq, beq_iff_eq]
    simp only [Int.toNat_natCast]
    constructor
    · intro e
      rw [← e, ← gadd_assoc g2, gadd_neg' g2, zero_gadd g2 j hj]
    · intro e
      have : j = gadd os (gneg os x.toNat) z := by omega
      rw [this, ← gadd_assoc g2, gadd_neg g2, zero_gadd g2 z hz]
  rw [h, nL_pick (mems_nodup b)]
  congr 1
  rw [Bool.eq_iff_iff, decide_eq_true_iff, mems_mem (lt64 (by omega : gn os ≤ 64) hb)]
  constructor
  · rintro ⟨i, hi, h⟩
    have : gadd os (gneg os x.toNat) z = i := by omega
    rw [this]; exact h
  · intro h; exact ⟨_, rfl, h⟩
theorem oppS_popc {os : List Int} (hg : grpB os = true) {a : Nat} (ha : a < 2 ^ gn os) : popc (oppS os a) = popc a := by
  obtain ⟨g2, g3, g4, g5, g6⟩ := grp_gn hg
  have hl := lt64 (by omega : gn os ≤ 64) ha
  have ho := oppS_gn hg (b := a) hl
  have hol := lt64 (by omega : gn os ≤ 64) ho
  have hinj : ∀ i j, i < gn os → j < gn os → gneg os i = gneg os j → i = j := fun i j hi hj e => by
    rw [← gneg_neg g2 i hi, e, gneg_neg g2 j hj]
  apply Nat.le_antisymm
  · refine popc_inj (by simpa using hol) (by simpa using hl) (gneg os) (fun i hi => ?_) (fun i j hi hj e => hinj i j (bit_lt ho hi) (bit_lt ho hj) e)
    obtain ⟨p, hp, rfl⟩ := (orL_iff hl i).1 hi
    rw [gneg_neg g2 p (bit_lt ha hp)]; exact hp
  · exact popc_inj (by simpa using hl) (by simpa using hol) (gneg os) (fun i hi => (orL_iff hl _).2 ⟨i, hi, rfl⟩) (fun i j hi hj e => hinj i j (bit_lt ha hi) (bit_lt ha hj) e)
/-- The table of differences. -/
theorem cor_get {os : List Int} (hg : grpB os = true) {a z : Nat} (ha : a < 2 ^ gn os) (hz : z < gn os) : (cor os a a).getD z 0 = (nL (fun x => nat1 ((oppS os a).testBit (gadd os (gneg os x.toNat) z))) (mems a) : Nat) := by
  obtain ⟨g2, g3, g4, g5, g6⟩ := grp_gn hg
  unfold cor
  rw [tbl_get g2 _ _ hz, tN_one hg (oppS_gn hg (lt64 (by omega : gn os ≤ 64) ha)) hz]
theorem cor_zero {os : List Int} (hg : grpB os = true) {a : Nat} (ha : a < 2 ^ gn os) : nL (fun x => nat1 ((oppS os a).testBit (gadd os (gneg os x.toNat) 0))) (mems a) = popc a := by
  obtain ⟨g2, g3, g4, g5, g6⟩ := grp_gn hg
  rw [nL_const (c := 1), mems_length, Nat.mul_one]
  intro x hx
  obtain ⟨i, rfl, hi, hb⟩ := mems_in (by omega) ha hx
  rw [gadd_zero g2 _ (gneg_lt' g2 _), Int.toNat_natCast]
  have : (oppS os a).testBit (gneg os i) = true := (orL_iff (lt64 (by omega : gn os ≤ 64) ha) _).2 ⟨i, hb, rfl⟩
  rw [this]; rfl
theorem ns_first (f : Nat → Nat) : ∀ k, ns f (k + 1) = f 0 + ns (fun i => f (i + 1)) k
  | 0 => by simp [ns]
  | k + 1 => by
    have h1 : ns f (k + 1 + 1) = ns f (k + 1) + f (k + 1) := rfl
    have h2 : ns (fun i => f (i + 1)) (k + 1) = ns (fun i => f (i + 1)) k + f (k + 1) := rfl
    rw [h1, ns_first f k, h2]; omega
theorem ns_le {f : Nat → Nat} {c : Nat} : ∀ {k : Nat}, (∀ i, i < k → f i ≤ c) → ns f k ≤ k * c
  | 0, _ => by simp [ns]
  | k + 1, h => by
    have ih := ns_le (k := k) (fun i hi => h i (by omega))
    have := h k (by omega)
    have e : ns f (k + 1) = ns f k + f k := rfl
    rw [e, Nat.add_mul]; omega
theorem ns_eq {f : Nat → Nat} {c : Nat} : ∀ {k : Nat}, (∀ i, i < k → f i = c) → ns f k = k * c
  | 0, _ => by simp [ns]
  | k + 1, h => by
    have ih := ns_eq (k := k) (fun i hi => h i (by omega))
    have := h k (by omega)
    have e : ns f (k + 1) = ns f k + f k := rfl
    rw [e, Nat.add_mul]; omega
theorem cor_all {os : List Int} (hg : grpB os = true) {a : Nat} (ha : a < 2 ^ gn os) : popc a + ns (fun i => nL (fun x => nat1 ((oppS os a).testBit (gadd os (gneg os x.toNat) (i + 1)))) (mems a)) (gn os - 1) = popc a * popc a := by
  obtain ⟨g2, g3, g4, g5, g6⟩ := grp_gn hg
  have hopp := oppS_gn hg (lt64 (by omega : gn os ≤ 64) ha)
  have h1 := tN_all g2 (mems a) (mems (oppS os a))
  rw [mems_length, mems_length, oppS_popc hg ha, show gn os = (gn os - 1) + 1 by omega, ns_first] at h1
  have h2 : tN os (mems a) (mems (oppS os a)) 0 = popc a := by rw [tN_one hg hopp (by omega), cor_zero hg ha]
  have h3 : ns (fun i => tN os (mems a) (mems (oppS os a)) (i + 1)) (gn os - 1) = ns (fun i => nL (fun x => nat1 ((oppS os a).testBit (gadd os (gneg os x.toNat) (i + 1)))) (mems a)) (gn os - 1) := ns_congr fun i hi => by
    rw [tN_one hg hopp (by omega)]
  rw [h2, h3] at h1
  exact h1
/-- The bound for sets of Sidon. -/
theorem sid_bound {os : List Int} (hg : grpB os = true) {a : Nat} (ha : a < 2 ^ gn os) (hs : sdB os a = true) : popc a * popc a ≤ popc a + (gn os - 1) := by
  obtain ⟨g2, g3, g4, g5, g6⟩ := grp_gn hg
  have hE := (sidE_iff (by simpa using lt64 (by omega : gn os ≤ 64) ha)).1 (sdB_true.1 hs)
  have hl := lt64 (by omega : gn os ≤ 64) ha
  have h := cor_all hg ha
  have h2 := ns_le (f := fun i => nL (fun x => nat1 ((oppS os a).testBit (gadd os (gneg os x.toNat) (i + 1)))) (mems a)) (c := 1) (k := gn os - 1) (fun i hi => by
    refine nL_le_one (mems_nodup a) (fun x hx y hy h1 h2 => ?_)
    obtain ⟨p, rfl, hp, hpb⟩ := mems_in (by omega) ha hx
    obtain ⟨q, rfl, hq, hqb⟩ := mems_in (by omega) ha hy
    obtain ⟨r, hr, er⟩ := (orL_iff hl _).1 h1
    obtain ⟨s, hsb, es⟩ := (orL_iff hl _).1 h2
    simp only [Int.toNat_natCast] at er es
    have hrl := bit_lt ha hr
    have hsl := bit_lt ha hsb
    -- p - r = i + 1 = q - s
    have e1 : gadd os p (gneg os r) = i + 1 := by rw [er, ← gadd_assoc g2, gadd_neg g2, zero_gadd g2 _ (by omega)]
    have e2 : gadd os q (gneg os s) = i + 1 := by rw [es, ← gadd_assoc g2, gadd_neg g2, zero_gadd g2 _ (by omega)]
    have e3 : gadd os (i + 1) r = p := by rw [← e1, gadd_assoc g2, gadd_neg' g2, gadd_zero g2 _ hp]
    have e4 : gadd os (i + 1) s = q := by rw [← e2, gadd_assoc g2, gadd_neg' g2, gadd_zero g2 _ hq]
    have e5 : gadd os p s = gadd os q r := by rw [← e3, ← e4, gadd_assoc g2, gadd_assoc g2, gadd_comm os r s]
    have hpr : p ≠ r := fun e => by
      subst e
      have e0 : gadd os (i + 1) p = gadd os 0 p := by rw [e3, zero_gadd g2 p hp]
      rw [gadd_comm os (i + 1) p, gadd_comm os 0 p] at e0
      have := gadd_cancel g2 (by omega) (by omega) e0
      omega
    rcases Nat.le_total p s with l1 | l1 <;> rcases Nat.le_total q r with l2 | l2
    · rw [(hE p s q r hpb hsb hqb hr l1 l2 e5).1]
    · rw [gadd_comm os q r] at e5
      exact absurd (hE p s r q hpb hsb hr hqb l1 l2 e5).1 hpr
    · rw [gadd_comm os p s] at e5
      exact absurd (hE s p q r hsb hpb hqb hr l1 l2 e5).2 hpr
    · rw [gadd_comm os p s, gadd_comm os q r] at e5
      rw [(hE s p r q hsb hpb hr hqb l1 l2 e5).2])
  omega
/-- A difference set of m elements: each element but 0 is as often a difference. -/
theorem ds_count {os : List Int} {a : Nat} (h : dsB os (a : Int) = true) (ha : a < 2 ^ gn os) : dsV os (a : Int) * ((gn os : Int) - 1) = (popc a : Int) * ((popc a : Int) - 1) := by
  have h' := h
  simp only [dsB, setB, Bool.and_eq_true, decide_eq_true_eq, Int.toNat_natCast] at h'
  obtain ⟨⟨hg, _⟩, h2, hP⟩ := h'
  obtain ⟨g2, g3, g4, g5, g6⟩ := grp_gn hg
  have hc := cor_all hg ha
  have e1 : dsV os (a : Int) = (cor os a a).getD 1 0 := by simp [dsV, h]
  rw [cor_get hg ha (by omega)] at e1
  obtain ⟨K, hK⟩ : ∃ K, K = nL (fun x => nat1 ((oppS os a).testBit (gadd os (gneg os x.toNat) 1))) (mems a) := ⟨_, rfl⟩
  rw [← hK] at e1
  have h3 := ns_eq (f := fun i => nL (fun x => nat1 ((oppS os a).testBit (gadd os (gneg os x.toNat) (i + 1)))) (mems a)) (c := K) (k := gn os - 1) (fun i hi => by
    show nL (fun x => nat1 ((oppS os a).testBit (gadd os (gneg os x.toNat) (i + 1)))) (mems a) = K
    by_cases e : i = 0
    · subst e; exact hK.symm
    · have h4 := hP (i + 1) (by omega) (by omega)
      rw [cor_get hg ha (by omega), cor_get hg ha (by omega), ← hK] at h4
      exact_mod_cast h4)
  rw [h3] at hc
  rw [e1, show ((gn os : Int) - 1) = ((gn os - 1 : Nat) : Int) by omega, Int.mul_sub, Int.mul_one]
  have h5 : ((popc a * popc a : Nat) : Int) = (popc a : Int) * popc a := by push_cast; rfl
  have h6 : (((gn os - 1) * K : Nat) : Int) = (K : Int) * ((gn os - 1 : Nat) : Int) := by push_cast; rw [Int.mul_comm]
  omega
/-- What the search for difference sets hands back. -/
theorem fdO_P (P : Nat → Bool) (N : Nat) (hN : N ≤ 64) : ∀ d left a b, d ≤ N → a < 2 ^ (N - d) → fdO P N d left a = some b → P b = true ∧ popc b = popc a + left
  | d, 0, a, b, hd, ha, h => by
    rw [fdO_zero] at h
    split at h
    · rename_i hp
      cases h; exact ⟨hp, by omega⟩
    · cases h
  | 0, _ + 1, _, _, _, _, h => by cases h
  | d + 1, left + 1, a, b, hd, ha, h => by
    have hx1 : N - d = N - (d + 1) + 1 := by omega
    have hb : a ||| 2 ^ (N - (d + 1)) < 2 ^ (N - d) := by rw [hx1]; exact or_bit_lt ha
    have ha' : a < 2 ^ (N - d) := by rw [hx1]; exact Nat.lt_of_lt_of_le ha (Nat.pow_le_pow_right (by decide) (by omega))
    unfold fdO at h
    split at h
    · rename_i c hc
      cases h
      obtain ⟨h1, h2⟩ := fdO_P P N hN d left _ _ (by omega) hb hc
      refine ⟨h1, ?_⟩
      rw [h2, popc_or (bit_top ha) (by omega)]; omega
    · exact fdO_P P N hN d (left + 1) a b (by omega) ha' h
/-- A set of at most one element is one of Sidon. -/
theorem sid_small {os : List Int} {a : Nat} (h : popc a ≤ 1) : SidP os (mems a) := by
  rw [← mems_length] at h
  intro i j h1 h2 k m hb
  obtain ⟨b1, b2, b3⟩ := hb
  omega
end Go.Proofs.Ytokpgbpdmfibjaa
