/-
Plain laws of automorphisms: all of them are found, they form a group, images of sums are sums of images, stabilizers go to stabilizers, and canonical sets do not change under automorphisms and shifts. Conditions: those of a group.
-/
import Derived.Test.YtokpgbpdmfibjaaCan
import Derived.Test.YtokpgbpdmfibjaaDif
namespace Go.Proofs.Ytokpgbpdmfibjaa
open Go.RowKit Go.ChangeShapes
set_option linter.unusedVariables false

theorem soF_fresh {n : Nat} : ∀ {l : List Int} {a b : Nat}, soF n l a = some b → ∀ y ∈ l, a.testBit y.toNat = false
  | [], _, _, _, y, hy => by simp at hy
  | x :: t, a, b, h, y, hy => by
    unfold soF at h
    split at h
    · rename_i hc
      rcases List.mem_cons.1 hy with rfl | hy
      · exact hc.2
      · have := soF_fresh h y hy
        rw [Nat.testBit_or] at this
        cases ha : a.testBit y.toNat with
        | false => rfl
        | true => rw [ha] at this; simp at this
    · cases h
theorem soF_nodup {n : Nat} : ∀ {l : List Int} {a b : Nat}, soF n l a = some b → l.Nodup
  | [], _, _, _ => List.nodup_nil
  | x :: t, a, b, h => by
    unfold soF at h
    split at h
    · rename_i hc
      rw [List.nodup_cons]
      refine ⟨fun hx => ?_, soF_nodup h⟩
      have := soF_fresh h x hx
      rw [Nat.testBit_or, Nat.testBit_two_pow_self] at this
      simp at this
    · cases h
theorem soF_some {n : Nat} : ∀ {l : List Int} {a : Nat}, (∀ y ∈ l, (0 ≤ y ∧ y < (n : Int)) ∧ a.testBit y.toNat = false) → l.Nodup → ∃ b, soF n l a = some b
  | [], a, _, _ => ⟨a, rfl⟩
  | x :: t, a, h, hn => by
    rw [List.nodup_cons] at hn
    unfold soF
    rw [if_pos (h x (by simp))]
    refine soF_some (fun y hy => ⟨(h y (by simp [hy])).1, ?_⟩) hn.2
    rw [Nat.testBit_or, (h y (by simp [hy])).2, Bool.false_or]
    have h1 := (h y (by simp [hy])).1
    have h2 := (h x (by simp)).1
    have hne : x.toNat ≠ y.toNat := fun e => hn.1 (by rw [show x = y by omega]; exact hy)
    rw [Nat.testBit_two_pow]
    simpa using hne

/-- A map as a list. -/
def mkF (n : Nat) (φ : Nat → Nat) : List Int := (List.range n).map fun x => (φ x : Int)
theorem mkF_len (n : Nat) (φ : Nat → Nat) : (mkF n φ).length = n := by simp [mkF]
theorem mkF_elt {n : Nat} {φ : Nat → Nat} {x : Nat} (h : x < n) : elt (mkF n φ) x = φ x := by
  unfold elt mkF
  rw [List.getD_eq_getElem?_getD, List.getElem?_map, List.getElem?_range h]
  simp
theorem mkF_congr {n : Nat} {φ ψ : Nat → Nat} (h : ∀ x, x < n → φ x = ψ x) : mkF n φ = mkF n ψ := by
  unfold mkF
  apply List.map_congr_left
  intro x hx
  rw [h x (List.mem_range.1 hx)]
theorem mkF_self {n : Nat} {f : List Int} (hl : f.length = n) (hf : ∀ x ∈ f, 0 ≤ x) : mkF n (elt f) = f := by
  apply List.ext_getElem
  · rw [mkF_len, hl]
  · intro i h1 h2
    have h3 := hf _ (List.getElem_mem h2)
    simp only [mkF, List.getElem_map, List.getElem_range]
    unfold elt
    rw [List.getD_eq_getElem?_getD, List.getElem?_eq_getElem h2, Option.getD_some]
    omega
/-- What makes a map an automorphism. -/
structure AutF (os : List Int) (φ : Nat → Nat) : Prop where
  lt : ∀ x, x < gn os → φ x < gn os
  inj : ∀ x y, x < gn os → y < gn os → φ x = φ y → x = y
  sur : ∀ i, i < gn os → ∃ x, x < gn os ∧ φ x = i
  add : ∀ x y, x < gn os → y < gn os → φ (gadd os x y) = gadd os (φ x) (φ y)
theorem AutF.mk_aut {os : List Int} {φ : Nat → Nat} (hg : grpB os = true) (h : AutF os φ) : autB os (mkF (gn os) φ) = true := by
  obtain ⟨g2, g3, g4, g5, g6⟩ := grp_gn hg
  have hmem : ∀ y ∈ mkF (gn os) φ, ∃ x, x < gn os ∧ y = (φ x : Int) := by
    intro y hy
    unfold mkF at hy
    rw [List.mem_map] at hy
    obtain ⟨x, hx, rfl⟩ := hy
    exact ⟨x, List.mem_range.1 hx, rfl⟩
  have hnd : (mkF (gn os) φ).Nodup := by
    unfold mkF List.Nodup
    rw [List.pairwise_map]
    refine List.Pairwise.imp_of_mem ?_ (List.nodup_range (n := gn os))
    intro x y hx hy hne he
    exact hne (h.inj x y (List.mem_range.1 hx) (List.mem_range.1 hy) (by omega))
  obtain ⟨b, hb⟩ := soF_some (n := gn os) (a := 0) (fun y hy => by
    obtain ⟨x, hx, rfl⟩ := hmem y hy
    have := h.lt x hx
    exact ⟨⟨by omega, by omega⟩, by simp⟩) hnd
  have hbv : b = 2 ^ gn os - 1 := by
    apply Nat.eq_of_testBit_eq
    intro i
    rw [Nat.testBit_two_pow_sub_one, Bool.eq_iff_iff, soF_bit hb, decide_eq_true_eq]
    simp only [Nat.zero_testBit, Bool.false_eq_true, false_or]
    constructor
    · intro hi
      obtain ⟨x, hx, e⟩ := hmem _ hi
      have := h.lt x hx
      omega
    · intro hi
      obtain ⟨x, hx, e⟩ := h.sur i hi
      unfold mkF
      rw [List.mem_map]
      exact ⟨x, List.mem_range.2 hx, by rw [e]⟩
  have hs : soB os (mkF (gn os) φ) = true := by
    unfold soB
    rw [ordN_grp hg, hb, hg]; rfl
  have hv : soV os (mkF (gn os) φ) = 2 ^ gn os - 1 := by
    unfold soV
    rw [ordN_grp hg, hb, ← hbv]; rfl
  unfold autB
  rw [hs, Bool.true_and, Bool.and_eq_true]
  refine ⟨by simpa using hv, ?_⟩
  refine @decide_eq_true _ (Classical.propDecidable _) ?_
  intro x y hx hy
  unfold autAt
  rw [mkF_elt hx, mkF_elt hy, mkF_elt (gadd_lt' g2 x y)]
  exact h.add x y hx hy
theorem aut_F {os f : List Int} (h : autB os f = true) : AutF os (elt f) := by
  obtain ⟨hg, hlen, hsm, hrg, hP⟩ := aut_parts h
  obtain ⟨g2, g3, g4, g5, g6⟩ := grp_gn hg
  unfold autB at h
  simp only [Bool.and_eq_true] at h
  obtain ⟨h1, h2, -⟩ := h
  have hfull := of_decide_eq_true h2
  obtain ⟨-, a, ha, hv⟩ := so_parts h1
  have hnd := soF_nodup ha
  have hget : ∀ x (hx : x < f.length), (f[x] : Int) = (elt f x : Int) := by
    intro x hx
    have h3 := hrg _ (List.getElem_mem hx)
    unfold elt
    rw [List.getD_eq_getElem?_getD, List.getElem?_eq_getElem hx, Option.getD_some]
    omega
  refine ⟨fun x hx => ?_, fun x y hx hy e => ?_, fun i hi => ?_, fun x y hx hy => hP x y hx hy⟩
  · have hx' : x < f.length := by omega
    have h3 := hrg _ (List.getElem_mem hx')
    rw [hget x hx'] at h3
    omega
  · have hx' : x < f.length := by omega
    have hy' : y < f.length := by omega
    have e1 : f[x] = f[y] := by rw [hget x hx', hget y hy', e]
    exact (List.getElem_inj hnd).1 e1
  · have hb : a.testBit i = true := by
      rw [← hv, hfull, Nat.testBit_two_pow_sub_one]
      simpa using hi
    have hm : (i : Int) ∈ f := by
      have := (soF_bit ha i).1 hb
      simpa using this
    obtain ⟨x, hx, e⟩ := List.getElem_of_mem hm
    exact ⟨x, by omega, by have := hget x hx; omega⟩
theorem AutF.id {os : List Int} : AutF os (fun x => x) := ⟨fun x h => h, fun x y _ _ e => e, fun i h => ⟨i, h, rfl⟩, fun x y _ _ => rfl⟩
theorem AutF.comp {os : List Int} {φ ψ : Nat → Nat} (h : AutF os φ) (k : AutF os ψ) : AutF os (fun x => φ (ψ x)) :=
  ⟨fun x hx => h.lt _ (k.lt x hx), fun x y hx hy e => k.inj x y hx hy (h.inj _ _ (k.lt x hx) (k.lt y hy) e),
   fun i hi => by
    obtain ⟨y, hy, e⟩ := h.sur i hi
    obtain ⟨x, hx, e2⟩ := k.sur y hy
    exact ⟨x, hx, by rw [e2, e]⟩,
   fun x y hx hy => by
    show φ (ψ (gadd os x y)) = _
    rw [k.add x y hx hy, h.add _ _ (k.lt x hx) (k.lt y hy)]⟩
theorem AutF.inv {os : List Int} {φ : Nat → Nat} (g2 : ordsIn os = true) (h : AutF os φ) : ∃ ψ, AutF os ψ ∧ ∀ x, x < gn os → ψ (φ x) = x ∧ φ (ψ x) = x := by
  have hex : ∀ i, ∃ x, i < gn os → x < gn os ∧ φ x = i := fun i => by
    by_cases hi : i < gn os
    · obtain ⟨x, hx⟩ := h.sur i hi
      exact ⟨x, fun _ => hx⟩
    · exact ⟨0, fun h => absurd h hi⟩
  obtain ⟨ψ, hψ⟩ := Classical.axiomOfChoice hex
  have hl : ∀ x, x < gn os → ψ (φ x) = x := fun x hx => h.inj _ _ (hψ _ (h.lt x hx)).1 hx (hψ _ (h.lt x hx)).2
  refine ⟨ψ, ⟨fun x hx => (hψ x hx).1, fun x y hx hy e => ?_, fun i hi => ⟨φ i, h.lt i hi, hl i hi⟩, fun x y hx hy => ?_⟩, fun x hx => ⟨hl x hx, (hψ x hx).2⟩⟩
  · have h1 := (hψ x hx).2
    have h2 := (hψ y hy).2
    rw [e] at h1
    omega
  · have h1 := hψ x hx
    have h2 := hψ y hy
    have h3 := hψ _ (gadd_lt' g2 x y)
    refine h.inj _ _ h3.1 (gadd_lt' g2 _ _) ?_
    rw [h3.2, h.add _ _ h1.1 h2.1, h1.2, h2.2]
theorem AutF.zero {os : List Int} {φ : Nat → Nat} (g2 : ordsIn os = true) (h : AutF os φ) : φ 0 = 0 := by
  have h0 : 0 < gn os := by
    have := gord_pos g2
    unfold gn; omega
  have e := h.add 0 0 h0 h0
  rw [gadd_zero g2 0 h0] at e
  exact (gadd_cancel g2 h0 (h.lt 0 h0) (x := φ 0) (by rw [← e, gadd_zero g2 _ (h.lt 0 h0)])).symm
theorem AutF.mul {os : List Int} {φ : Nat → Nat} (g2 : ordsIn os = true) (h : AutF os φ) {x : Nat} (hx : x < gn os) : ∀ m, φ (gmul os x m) = gmul os (φ x) m
  | 0 => h.zero g2
  | m + 1 => by rw [gmul, h.add _ _ (gmul_lt g2 x m) hx, AutF.mul g2 h hx m, gmul]

/-- An element as a sum of multiples of generators. -/
def exU (os ps : List Int) : Nat → Nat
  | 0 => 0
  | k + 1 => gadd os (exU os ps k) (gmul os (unitE os k) (elt ps k))
theorem exU_cons {n : Nat} {os : List Int} (h2 : 2 ≤ n) (p : Nat) (ps : List Int) : ∀ k, exU ((n : Int) :: os) ((p : Int) :: ps) (k + 1) = p % n + n * exU os ps k
  | 0 => by
    have hm : p % n < n := Nat.mod_lt _ (by omega)
    have e : elt ((p : Int) :: ps) 0 = p := by simp [elt, List.getD]
    show gadd _ 0 (gmul _ 1 (elt ((p : Int) :: ps) 0)) = p % n + n * 0
    rw [e, gmul_one h2]
    simp only [gadd, Int.toNat_natCast, Nat.zero_mod, Nat.zero_div, Nat.zero_add, Nat.mod_mod, Nat.div_eq_of_lt hm, gadd_zz, Nat.mul_zero]
  | k + 1 => by
    have hm : p % n < n := Nat.mod_lt _ (by omega)
    have e : elt ((p : Int) :: ps) (k + 1) = elt ps k := by simp [elt, List.getD]
    rw [exU, exU_cons h2 p ps k, e]
    show gadd _ _ (gmul _ (((n : Int)).toNat * unitE os k) _) = _
    rw [Int.toNat_natCast, gmul_mul h2]
    simp only [gadd, Int.toNat_natCast]
    rw [dm_mod hm, dm_div hm, Nat.mul_mod_right, Nat.mul_div_cancel_left _ (show 0 < n by omega), Nat.add_zero, Nat.mod_mod]
    rfl
theorem exU_id : ∀ {os : List Int} (_ : ordsIn os = true) (x : Nat), x < gn os → exU os (plL os x) os.length = x
  | [], _, x, hx => by
    rw [gn_nil] at hx
    show 0 = x
    omega
  | o :: os, h, x, hx => by
    obtain ⟨⟨n, rfl, h2, h3⟩, h'⟩ := ordsIn_cons h
    rw [gn_cons h'] at hx
    simp only [plL, Int.toNat_natCast, List.length_cons]
    rw [exU_cons h2, exU_id h' _ ((Nat.div_lt_iff_lt_mul (by omega)).2 (by rw [Nat.mul_comm]; exact hx)), Nat.mod_mod]
    exact Nat.mod_add_div x n
theorem exU_lt {os : List Int} (g2 : ordsIn os = true) (ps : List Int) (k : Nat) : exU os ps k < gn os := by
  cases k with
  | zero =>
    have := gord_pos g2
    show 0 < gn os
    unfold gn; omega
  | succ k => exact gadd_lt' g2 _ _
theorem exZ_F {os : List Int} {φ : Nat → Nat} (g2 : ordsIn os = true) (h : AutF os φ) (ps : List Int) : ∀ k, k ≤ os.length → exZ os (mkF os.length fun i => φ (unitE os i)) ps k = φ (exU os ps k)
  | 0, _ => (h.zero g2).symm
  | k + 1, hk => by
    rw [exZ, exZ_F g2 h ps k (by omega), exU, mkF_elt (by omega), h.add _ _ (exU_lt g2 ps k) (gmul_lt g2 _ _), h.mul g2 (unitE_lt g2 k (by omega))]
theorem auGo_all {os : List Int} {N : Nat} {f : List Int} : ∀ (t im : List Int), (∀ y ∈ t, 0 ≤ y ∧ y < (N : Int)) → f ∈ tstA os (im ++ t) → f ∈ auGo os N t.length im
  | [], im, _, hf => by rw [List.append_nil] at hf; exact hf
  | y :: t, im, ht, hf => by
    have hy := ht y (by simp)
    show f ∈ (List.range N).flatMap (fun (x : Nat) => auGo os N t.length (im ++ [(x : Int)]))
    rw [List.mem_flatMap]
    refine ⟨y.toNat, List.mem_range.2 (by omega), ?_⟩
    rw [show ((y.toNat : Nat) : Int) = y by omega]
    apply auGo_all t (im ++ [y]) (fun z hz => ht z (by simp [hz]))
    rw [List.append_assoc]
    exact hf
/-- All automorphisms are found. -/
theorem autL_all {os f : List Int} (h : autB os f = true) : f ∈ autL os := by
  obtain ⟨hg, hlen, hsm, hrg, hP⟩ := aut_parts h
  obtain ⟨g2, g3, g4, g5, g6⟩ := grp_gn hg
  have hF := aut_F h
  have hE : extL os (mkF os.length fun i => elt f (unitE os i)) = f := by
    rw [← mkF_self hlen (fun x hx => (hrg x hx).1)]
    show mkF (gn os) (ext os _) = _
    apply mkF_congr
    intro x hx
    unfold ext
    rw [mkF_self hlen (fun x hx => (hrg x hx).1), exZ_F g2 hF _ _ (Nat.le_refl _), exU_id g2 x hx]
  have := auGo_all (os := os) (N := gn os) (f := f) (mkF os.length fun i => elt f (unitE os i)) [] (fun y hy => by
    unfold mkF at hy
    rw [List.mem_map] at hy
    obtain ⟨i, hi, rfl⟩ := hy
    have := hF.lt _ (unitE_lt g2 i (List.mem_range.1 hi))
    show (0 : Int) ≤ (elt f (unitE os i) : Int) ∧ (elt f (unitE os i) : Int) < _
    omega) (by
    rw [List.nil_append]
    unfold tstA
    rw [hE, if_pos h]
    simp)
  rw [mkF_len] at this
  exact this
theorem autL_iff {os f : List Int} : f ∈ autL os ↔ autB os f = true := ⟨fun h => auGo_mem f h, autL_all⟩
theorem autL_pos {os : List Int} (hg : grpB os = true) : 0 < (autL os).length :=
  List.length_pos_of_mem (autL_all (AutF.id.mk_aut hg))

/-- Images of images. -/
theorem orL_orL {f g : Nat → Nat} {a : Nat} (ha : a < 18446744073709551616) (hb : orL f (mems a) < 18446744073709551616) : orL g (mems (orL f (mems a))) = orL (fun x => g (f x)) (mems a) := by
  apply Nat.eq_of_testBit_eq
  intro i
  rw [Bool.eq_iff_iff, orL_iff hb, orL_iff ha]
  constructor
  · rintro ⟨p, hp, rfl⟩
    obtain ⟨q, hq, rfl⟩ := (orL_iff ha p).1 hp
    exact ⟨q, hq, rfl⟩
  · rintro ⟨q, hq, rfl⟩
    exact ⟨f q, (orL_iff ha _).2 ⟨q, hq, rfl⟩, rfl⟩
theorem orL_congr {f g : Nat → Nat} {a : Nat} (ha : a < 18446744073709551616) (h : ∀ x, a.testBit x = true → f x = g x) : orL f (mems a) = orL g (mems a) := by
  apply Nat.eq_of_testBit_eq
  intro i
  rw [Bool.eq_iff_iff, orL_iff ha, orL_iff ha]
  constructor
  · rintro ⟨q, hq, rfl⟩
    exact ⟨q, hq, (h q hq).symm⟩
  · rintro ⟨q, hq, rfl⟩
    exact ⟨q, hq, h q hq⟩
theorem orL_id {f : Nat → Nat} {a : Nat} (ha : a < 18446744073709551616) (h : ∀ x, a.testBit x = true → f x = x) : orL f (mems a) = a := by
  apply Nat.eq_of_testBit_eq
  intro i
  rw [Bool.eq_iff_iff, orL_iff ha]
  constructor
  · rintro ⟨q, hq, rfl⟩
    rw [h q hq]; exact hq
  · intro hi
    exact ⟨i, hi, h i hi⟩
theorem orL_gn {f : Nat → Nat} {n a : Nat} (ha : a < 18446744073709551616) (h : ∀ x, a.testBit x = true → f x < n) : orL f (mems a) < 2 ^ n := by
  apply Nat.lt_pow_two_of_testBit
  intro i hi
  cases hb : (orL f (mems a)).testBit i with
  | false => rfl
  | true =>
    obtain ⟨q, hq, e⟩ := (orL_iff ha i).1 hb
    have := h q hq
    omega
theorem lt_64 {n a : Nat} (hn : n ≤ 24) (ha : a < 2 ^ n) : a < 18446744073709551616 := by
  have := Nat.pow_le_pow_right (n := 2) (by decide) hn
  have e : (2 : Nat) ^ 24 = 16777216 := by decide
  omega

theorem caS_le (os : List Int) (b best : Nat) : ∀ y, caS os b best y ≤ best ∧ ∀ z, z < y → caS os b best y ≤ orL (gadd os z) (mems b)
  | 0 => ⟨Nat.le_refl _, fun z h => by omega⟩
  | y + 1 => by
    obtain ⟨h1, h2⟩ := caS_le os b best y
    have h3 : caS os b best (y + 1) ≤ caS os b best y ∧ caS os b best (y + 1) ≤ orL (gadd os y) (mems b) := by
      show mn _ _ ≤ _ ∧ mn _ _ ≤ _
      unfold mn
      split <;> omega
    refine ⟨Nat.le_trans h3.1 h1, fun z hz => ?_⟩
    by_cases e : z = y
    · subst e; exact h3.2
    · exact Nat.le_trans h3.1 (h2 z (by omega))
theorem caS_at (os : List Int) (b best : Nat) : ∀ y, caS os b best y = best ∨ ∃ z, z < y ∧ caS os b best y = orL (gadd os z) (mems b)
  | 0 => Or.inl rfl
  | y + 1 => by
    have h3 : caS os b best (y + 1) = caS os b best y ∨ caS os b best (y + 1) = orL (gadd os y) (mems b) := by
      show mn _ _ = _ ∨ mn _ _ = _
      unfold mn
      split
      · exact Or.inr rfl
      · exact Or.inl rfl
    rcases h3 with h3 | h3
    · rcases caS_at os b best y with h | ⟨z, hz, h⟩
      · exact Or.inl (h3.trans h)
      · exact Or.inr ⟨z, by omega, h3.trans h⟩
    · exact Or.inr ⟨y, by omega, h3⟩
theorem caI_le (os : List Int) (F : List (List Int)) (a : Nat) : ∀ k, caI os F a k ≤ a ∧ ∀ i z, i < k → z < gn os → caI os F a k ≤ orL (gadd os z) (mems (imS (F.getD i []) a))
  | 0 => ⟨Nat.le_refl _, fun i z h => by omega⟩
  | k + 1 => by
    obtain ⟨h1, h2⟩ := caI_le os F a k
    obtain ⟨h3, h4⟩ := caS_le os (imS (F.getD k []) a) (caI os F a k) (gn os)
    refine ⟨Nat.le_trans h3 h1, fun i z hi hz => ?_⟩
    by_cases e : i = k
    · subst e; exact h4 z hz
    · exact Nat.le_trans h3 (h2 i z (by omega) hz)
theorem caI_at (os : List Int) (F : List (List Int)) (a : Nat) : ∀ k, caI os F a k = a ∨ ∃ i z, i < k ∧ z < gn os ∧ caI os F a k = orL (gadd os z) (mems (imS (F.getD i []) a))
  | 0 => Or.inl rfl
  | k + 1 => by
    rcases caS_at os (imS (F.getD k []) a) (caI os F a k) (gn os) with h | ⟨z, hz, h⟩
    · rcases caI_at os F a k with g | ⟨i, z, hi, hz, g⟩
      · exact Or.inl (h.trans g)
      · exact Or.inr ⟨i, z, by omega, hz, h.trans g⟩
    · exact Or.inr ⟨k, z, by omega, hz, h⟩
theorem getD_mem {F : List (List Int)} {f : List Int} (h : f ∈ F) : ∃ i, i < F.length ∧ F.getD i [] = f := by
  obtain ⟨i, hi, e⟩ := List.getElem_of_mem h
  exact ⟨i, hi, by rw [List.getD_eq_getElem?_getD, List.getElem?_eq_getElem hi, Option.getD_some, e]⟩
/-- A shifted image in one go. -/
theorem orb_eq {os : List Int} (hg : grpB os = true) {φ : Nat → Nat} (h : AutF os φ) {a z : Nat} (ha : a < 2 ^ gn os) : orL (gadd os z) (mems (imS (mkF (gn os) φ) a)) = orL (fun x => gadd os z (φ x)) (mems a) := by
  obtain ⟨g2, g3, g4, g5, g6⟩ := grp_gn hg
  have h64 := lt_64 g4 ha
  have e : imS (mkF (gn os) φ) a = orL φ (mems a) := orL_congr h64 (fun x hx => mkF_elt (bit_lt ha hx))
  rw [e, orL_orL h64 (lt_64 g4 (orL_gn h64 (fun x hx => h.lt x (bit_lt ha hx))))]
theorem caV_le {os : List Int} (hg : grpB os = true) {φ : Nat → Nat} (h : AutF os φ) {a z : Nat} (ha : a < 2 ^ gn os) (hz : z < gn os) : caV os a ≤ orL (fun x => gadd os z (φ x)) (mems a) := by
  rw [← orb_eq hg h ha]
  obtain ⟨i, hi, e⟩ := getD_mem (autL_all (h.mk_aut hg))
  have := (caI_le os (autL os) a (autL os).length).2 i z hi hz
  rw [e] at this
  exact this
theorem caV_at {os : List Int} (hg : grpB os = true) {a : Nat} (ha : a < 2 ^ gn os) : ∃ φ z, AutF os φ ∧ z < gn os ∧ caV os a = orL (fun x => gadd os z (φ x)) (mems a) := by
  obtain ⟨g2, g3, g4, g5, g6⟩ := grp_gn hg
  rcases caI_at os (autL os) a (autL os).length with h | ⟨i, z, hi, hz, h⟩
  · refine ⟨fun x => x, 0, AutF.id, g3, ?_⟩
    rw [orL_id (lt_64 g4 ha) (fun x hx => zero_gadd g2 x (bit_lt ha hx))]
    exact h
  · have hA := autL_mem hi
    obtain ⟨-, hlen, hsm, hrg, hP⟩ := aut_parts hA
    refine ⟨elt ((autL os).getD i []), z, aut_F hA, hz, ?_⟩
    rw [← orb_eq hg (aut_F hA) ha, mkF_self hlen (fun x hx => (hrg x hx).1)]
    exact h
/-- Canonical sets do not depend on automorphisms and shifts. -/
theorem caV_same {os : List Int} (hg : grpB os = true) {φ : Nat → Nat} (h : AutF os φ) {a y : Nat} (ha : a < 2 ^ gn os) (hy : y < gn os) : caV os (orL (fun x => gadd os y (φ x)) (mems a)) = caV os a := by
  obtain ⟨g2, g3, g4, g5, g6⟩ := grp_gn hg
  have h64 := lt_64 g4 ha
  have hb := orL_gn (n := gn os) (f := fun x => gadd os y (φ x)) h64 (fun x _ => gadd_lt' g2 _ _)
  have hb64 := lt_64 g4 hb
  apply Nat.le_antisymm
  · obtain ⟨η, z, hη, hz, e⟩ := caV_at hg ha
    obtain ⟨ψ, hψ, hi⟩ := h.inv g2
    have hc := hη.comp hψ
    have hcy := hc.lt y hy
    have := caV_le hg hc hb (gadd_lt' g2 z (gneg os (η (ψ y))))
    rw [orL_orL h64 hb64] at this
    rw [e]
    refine Nat.le_trans this (Nat.le_of_eq (orL_congr h64 (fun x hx => ?_)))
    have hx' := bit_lt ha hx
    have e1 := hc.add y (φ x) hy (h.lt x hx')
    show gadd os (gadd os z (gneg os (η (ψ y)))) (η (ψ (gadd os y (φ x)))) = gadd os z (η x)
    rw [show η (ψ (gadd os y (φ x))) = gadd os (η (ψ y)) (η (ψ (φ x))) from e1, (hi x hx').1, gadd_assoc g2, ← gadd_assoc g2 (gneg os _), gadd_neg' g2, zero_gadd g2 _ (hη.lt x hx')]
  · obtain ⟨η, z, hη, hz, e⟩ := caV_at hg hb
    have := caV_le hg (hη.comp h) ha (gadd_lt' g2 z (η y))
    rw [e, orL_orL h64 hb64]
    refine Nat.le_trans this (Nat.le_of_eq (orL_congr h64 (fun x hx => ?_)))
    have hx' := bit_lt ha hx
    show gadd os (gadd os z (η y)) (η (φ x)) = gadd os z (η (gadd os y (φ x)))
    rw [hη.add y (φ x) hy (h.lt x hx'), gadd_assoc g2]

theorem imS_gn {os f : List Int} (h : autB os f = true) {a : Nat} (ha : a < 2 ^ gn os) : imS f a < 2 ^ gn os := by
  obtain ⟨hg, -⟩ := aut_parts h
  obtain ⟨g2, g3, g4, g5, g6⟩ := grp_gn hg
  exact orL_gn (lt_64 g4 ha) (fun x hx => (aut_F h).lt x (bit_lt ha hx))
theorem caV_shift {os f : List Int} (h : autB os f = true) {a y : Nat} (ha : a < 2 ^ gn os) (hy : y < gn os) : caV os (orL (gadd os y) (mems (imS f a))) = caV os a := by
  obtain ⟨hg, hlen, hsm, hrg, hP⟩ := aut_parts h
  have e := orb_eq hg (aut_F h) (z := y) ha
  rw [mkF_self hlen (fun x hx => (hrg x hx).1)] at e
  rw [e]
  exact caV_same hg (aut_F h) ha hy
theorem caV_image {os f : List Int} (h : autB os f = true) {a : Nat} (ha : a < 2 ^ gn os) : caV os (imS f a) = caV os a := by
  obtain ⟨hg, hlen, hsm, hrg, hP⟩ := aut_parts h
  obtain ⟨g2, g3, g4, g5, g6⟩ := grp_gn hg
  have hb := imS_gn h ha
  have := caV_shift h ha (y := 0) g3
  rwa [orL_id (lt_64 g4 hb) (fun x hx => zero_gadd g2 x (bit_lt hb hx))] at this
theorem sum_gn {os : List Int} (hg : grpB os = true) {a b : Nat} (ha : a < 2 ^ gn os) (hb : b < 2 ^ gn os) : sumS os a b < 2 ^ gn os := by
  obtain ⟨g2, g3, g4, g5, g6⟩ := grp_gn hg
  apply Nat.lt_pow_two_of_testBit
  intro i hi
  cases h : (sumS os a b).testBit i with
  | false => rfl
  | true =>
    obtain ⟨p, q, _, _, e⟩ := (sumS_iff (lt_64 g4 ha) (lt_64 g4 hb) i).1 h
    have := gadd_lt' g2 p q
    omega
/-- Automorphisms keep sums of sets. -/
theorem imS_sum {os f : List Int} (h : autB os f = true) {a b : Nat} (ha : a < 2 ^ gn os) (hb : b < 2 ^ gn os) : imS f (sumS os a b) = sumS os (imS f a) (imS f b) := by
  obtain ⟨hg, -⟩ := aut_parts h
  obtain ⟨g2, g3, g4, g5, g6⟩ := grp_gn hg
  have hF := aut_F h
  have a64 := lt_64 g4 ha
  have b64 := lt_64 g4 hb
  apply Nat.eq_of_testBit_eq
  intro i
  rw [Bool.eq_iff_iff, sumS_iff (lt_64 g4 (imS_gn h ha)) (lt_64 g4 (imS_gn h hb))]
  unfold imS
  rw [orL_iff (lt_64 g4 (sum_gn hg ha hb))]
  constructor
  · rintro ⟨s, hs, rfl⟩
    obtain ⟨p, q, hp, hq, rfl⟩ := (sumS_iff a64 b64 s).1 hs
    exact ⟨elt f p, elt f q, (orL_iff a64 _).2 ⟨p, hp, rfl⟩, (orL_iff b64 _).2 ⟨q, hq, rfl⟩, (hF.add p q (bit_lt ha hp) (bit_lt hb hq)).symm⟩
  · rintro ⟨u, v, hu, hv, rfl⟩
    obtain ⟨p, hp, rfl⟩ := (orL_iff a64 u).1 hu
    obtain ⟨q, hq, rfl⟩ := (orL_iff b64 v).1 hv
    exact ⟨gadd os p q, (sumS_iff a64 b64 _).2 ⟨p, q, hp, hq, rfl⟩, hF.add p q (bit_lt ha hp) (bit_lt hb hq)⟩
/-- The first k elements that shift a set onto itself. -/
def stS (os : List Int) (a : Nat) : Nat → Nat
  | 0 => 0
  | k + 1 => if orL (gadd os k) (mems a) = a then stS os a k ||| 2 ^ k else stS os a k
theorem stS_bit (os : List Int) (a : Nat) : ∀ k i, (stS os a k).testBit i = true ↔ i < k ∧ orL (gadd os i) (mems a) = a
  | 0, i => by simp [stS]
  | k + 1, i => by
    unfold stS
    split
    · rename_i h
      rw [Nat.testBit_or, Nat.testBit_two_pow, Bool.or_eq_true, stS_bit os a k i, decide_eq_true_eq]
      constructor
      · rintro (⟨h1, h2⟩ | rfl)
        · exact ⟨by omega, h2⟩
        · exact ⟨by omega, h⟩
      · rintro ⟨h1, h2⟩
        by_cases e : k = i
        · exact Or.inr e
        · exact Or.inl ⟨by omega, h2⟩
    · rename_i h
      rw [stS_bit os a k i]
      constructor
      · rintro ⟨h1, h2⟩
        exact ⟨by omega, h2⟩
      · rintro ⟨h1, h2⟩
        refine ⟨?_, h2⟩
        by_cases e : i = k
        · subst e; exact absurd h2 h
        · omega
theorem stS_lt (os : List Int) (a k : Nat) : stS os a k < 2 ^ k := by
  apply Nat.lt_pow_two_of_testBit
  intro i hi
  cases h : (stS os a k).testBit i with
  | false => rfl
  | true => have := ((stS_bit os a k i).1 h).1; omega
theorem imS_inj {os f : List Int} (h : autB os f = true) {a b : Nat} (ha : a < 2 ^ gn os) (hb : b < 2 ^ gn os) (e : imS f a = imS f b) : a = b := by
  obtain ⟨hg, -⟩ := aut_parts h
  obtain ⟨g2, g3, g4, g5, g6⟩ := grp_gn hg
  have hF := aut_F h
  have key : ∀ {a b : Nat}, a < 2 ^ gn os → b < 2 ^ gn os → imS f a = imS f b → ∀ i, a.testBit i = true → b.testBit i = true := by
    intro a b ha hb e i hi
    have h1 : (imS f a).testBit (elt f i) = true := (orL_iff (lt_64 g4 ha) _).2 ⟨i, hi, rfl⟩
    rw [e] at h1
    obtain ⟨q, hq, e2⟩ := (orL_iff (lt_64 g4 hb) _).1 h1
    rw [← hF.inj q i (bit_lt hb hq) (bit_lt ha hi) e2]
    exact hq
  apply Nat.eq_of_testBit_eq
  intro i
  rw [Bool.eq_iff_iff]
  exact ⟨key ha hb e i, key hb ha e.symm i⟩
/-- Stabilizers go to stabilizers. -/
theorem imS_stab {os f : List Int} (h : autB os f = true) {a : Nat} (ha : a < 2 ^ gn os) : stS os (imS f a) (gn os) = imS f (stS os a (gn os)) := by
  obtain ⟨hg, -⟩ := aut_parts h
  obtain ⟨g2, g3, g4, g5, g6⟩ := grp_gn hg
  have hF := aut_F h
  have a64 := lt_64 g4 ha
  have b64 := lt_64 g4 (imS_gn h ha)
  have key : ∀ p, p < gn os → orL (gadd os (elt f p)) (mems (imS f a)) = imS f (orL (gadd os p) (mems a)) := by
    intro p hp
    unfold imS at b64 ⊢
    rw [orL_orL a64 b64, orL_orL a64 (lt_64 g4 (orL_gn (n := gn os) a64 (fun x _ => gadd_lt' g2 _ _)))]
    exact orL_congr a64 (fun x hx => (hF.add p x hp (bit_lt ha hx)).symm)
  apply Nat.eq_of_testBit_eq
  intro i
  rw [Bool.eq_iff_iff, stS_bit]
  unfold imS
  rw [orL_iff (lt_64 g4 (stS_lt os a _))]
  constructor
  · rintro ⟨hi, e⟩
    obtain ⟨p, hp, rfl⟩ := hF.sur i hi
    refine ⟨p, (stS_bit os a _ p).2 ⟨hp, ?_⟩, rfl⟩
    refine imS_inj h (orL_gn a64 (fun x _ => gadd_lt' g2 _ _)) ha ?_
    rw [← key p hp]
    exact e
  · rintro ⟨p, hp, rfl⟩
    obtain ⟨h1, h2⟩ := (stS_bit os a _ p).1 hp
    refine ⟨hF.lt p h1, ?_⟩
    have := key p h1
    rw [h2] at this
    exact this
end Go.Proofs.Ytokpgbpdmfibjaa
