/-
The searches for maps that keep sums both ways: the program's and the reference's find the same; what is found; plain. Conditions: sets of groups.
-/
import Derived.Test.YtokpgbpdmfibjaaFrm
import Derived.Test.YtokpgbpdmfibjaaCml
namespace Go.Proofs.Ytokpgbpdmfibjaa
open Go.RowKit Go.ChangeShapes
set_option linter.unusedVariables false

theorem soG_fresh {n : Nat} : ∀ {l : List Int} {a b : Nat}, soF n l a = some b → ∀ y ∈ l, a.testBit y.toNat = false
  | [], _, _, _, y, hy => by simp at hy
  | x :: t, a, b, h, y, hy => by
    unfold soF at h
    split at h
    · rename_i hc
      rcases List.mem_cons.1 hy with rfl | hy
      · exact hc.2
      · have := soG_fresh h y hy
        rw [Nat.testBit_or] at this
        cases ha : a.testBit y.toNat with
        | false => rfl
        | true => rw [ha] at this; simp at this
    · cases h
theorem soG_nodup {n : Nat} : ∀ {l : List Int} {a b : Nat}, soF n l a = some b → l.Nodup
  | [], _, _, _ => List.nodup_nil
  | x :: t, a, b, h => by
    unfold soF at h
    split at h
    · rename_i hc
      rw [List.nodup_cons]
      refine ⟨fun hx => ?_, soG_nodup h⟩
      have := soG_fresh h x hx
      rw [Nat.testBit_or, Nat.testBit_two_pow_self] at this
      simp at this
    · cases h
theorem soG_some {n : Nat} : ∀ {l : List Int} {a : Nat}, (∀ y ∈ l, (0 ≤ y ∧ y < (n : Int)) ∧ a.testBit y.toNat = false) → l.Nodup → ∃ b, soF n l a = some b
  | [], a, _, _ => ⟨a, rfl⟩
  | x :: t, a, h, hn => by
    rw [List.nodup_cons] at hn
    unfold soF
    rw [if_pos (h x (by simp))]
    refine soG_some (fun y hy => ⟨(h y (by simp [hy])).1, ?_⟩) hn.2
    rw [Nat.testBit_or, (h y (by simp [hy])).2, Bool.false_or]
    have h1 := (h y (by simp [hy])).1
    have h2 := (h x (by simp)).1
    have hne : x.toNat ≠ y.toNat := fun e => hn.1 (by rw [show x = y by omega]; exact hy)
    rw [Nat.testBit_two_pow]
    simpa using hne
theorem soB_iff {os l : List Int} (hg : grpB os = true) : soB os l = true ↔ (∀ x ∈ l, 0 ≤ x ∧ x < (gn os : Int)) ∧ l.Nodup := by
  constructor
  · intro h
    obtain ⟨-, a, ha, -⟩ := so_parts' h
    exact ⟨so_lt' h, soG_nodup ha⟩
  · rintro ⟨h1, h2⟩
    obtain ⟨b, hb⟩ := soG_some (n := gn os) (a := 0) (fun y hy => ⟨h1 y hy, by simp⟩) h2
    unfold soB
    rw [ordN_grp hg, hb, hg]; rfl
theorem soV_bit {os l : List Int} (h : soB os l = true) (i : Nat) : (soV os l).testBit i = true ↔ (i : Int) ∈ l := by
  obtain ⟨-, a, ha, hv⟩ := so_parts' h
  rw [hv]
  have := soF_bit ha i
  simpa using this
theorem soV_lt {os l : List Int} (h : soB os l = true) : soV os l < 2 ^ gn os := by
  obtain ⟨hg, a, ha, hv⟩ := so_parts' h
  rw [hv]
  exact soF_lt (grp_gn hg).2.2.1 ha (Nat.two_pow_pos _)
theorem soV_popc {os l : List Int} (h : soB os l = true) : popc (soV os l) = l.length := by
  obtain ⟨hg, a, ha, hv⟩ := so_parts' h
  have := soF_popc (grp_gn hg).2.2.1 ha
  rw [popc_zero] at this
  rw [hv]; omega
theorem soB_mems {os : List Int} (hg : grpB os = true) {a : Nat} (ha : a < 2 ^ gn os) : soB os (mems a) = true := by
  obtain ⟨g2, g3, g4, g5, g6⟩ := grp_gn hg
  refine (soB_iff hg).2 ⟨fun x hx => ?_, mems_nodup a⟩
  have := mems_lt ha hx
  omega
theorem soV_mems {os : List Int} (hg : grpB os = true) {a : Nat} (ha : a < 2 ^ gn os) : soV os (mems a) = a := by
  have hs := soB_mems hg ha
  obtain ⟨g2, g3, g4, g5, g6⟩ := grp_gn hg
  have ha64 := lt64 (show gn os ≤ 64 by omega) ha
  apply Nat.eq_of_testBit_eq
  intro i
  rw [Bool.eq_iff_iff, soV_bit hs, mems_mem ha64]
  constructor
  · rintro ⟨j, hj, hb⟩
    obtain rfl : i = j := by omega
    exact hb
  · intro hb
    exact ⟨i, rfl, hb⟩

/-- Sums are kept both ways. -/
noncomputable def k2B (os hs l m : List Int) (n : Nat) : Bool := kpB os hs l m n && kpB hs os m l n
/-- The program's search. -/
noncomputable def fiI (os hs l b : List Int) : Nat → List Int → Option (List Int)
  | 0, m => if k2B os hs l m l.length = true then some m else none
  | d + 1, m => b.findSome? fun x => if x ∈ m then none else fiI os hs l b d (m ++ [x])
/-- The reference's. -/
noncomputable def fiS (os hs l b : List Int) : Nat → List Int → Option (List Int)
  | 0, m => if fsB os hs l m = true then some m else none
  | d + 1, m => b.findSome? fun x => if (soB hs (m ++ [x]) && kpB os hs l (m ++ [x]) (m.length + 1)) = true then fiS os hs l b d (m ++ [x]) else none
theorem findSome_none {α β : Type} {f : α → Option β} : ∀ {l : List α}, (∀ x ∈ l, f x = none) → l.findSome? f = none
  | [], _ => rfl
  | x :: t, h => by
    rw [List.findSome?_cons, h x (by simp)]
    exact findSome_none fun y hy => h y (by simp [hy])
theorem findSome_congr {α β : Type} {f g : α → Option β} : ∀ {l : List α}, (∀ x ∈ l, f x = g x) → l.findSome? f = l.findSome? g
  | [], _ => rfl
  | x :: t, h => by
    rw [List.findSome?_cons, List.findSome?_cons, h x (by simp), findSome_congr fun y hy => h y (by simp [hy])]
theorem findSome_some {α β : Type} {f : α → Option β} {y : β} : ∀ {l : List α}, l.findSome? f = some y → ∃ x ∈ l, f x = some y
  | [], h => by cases h
  | x :: t, h => by
    rw [List.findSome?_cons] at h
    cases hx : f x with
    | none =>
      rw [hx] at h
      obtain ⟨z, hz, e⟩ := findSome_some h
      exact ⟨z, by simp [hz], e⟩
    | some v =>
      rw [hx] at h
      exact ⟨x, by simp, by rw [hx]; exact h⟩
theorem fiI_none {os hs l b : List Int} : ∀ {d : Nat} {m : List Int}, m.length + d = l.length → kpB os hs l m m.length = false → fiI os hs l b d m = none
  | 0, m, hl, h => by
    have e : m.length = l.length := by omega
    unfold fiI k2B
    rw [← e, h]
    simp
  | d + 1, m, hl, h => by
    unfold fiI
    refine findSome_none fun x _ => ?_
    split
    · rfl
    · refine fiI_none (by simp; omega) ?_
      cases e : kpB os hs l (m ++ [x]) (m ++ [x]).length with
      | false => rfl
      | true =>
        rw [List.length_append] at e
        rw [kpB_pre e] at h
        cases h
/-- Where all is fine, the isomorphisms are the maps that keep sums both ways. -/
theorem fsB_eq {os hs l m : List Int} (hl : soB os l = true) (hm : soB hs m = true) (h6 : 1 ≤ l.length ∧ l.length ≤ 6) (e : m.length = l.length) : fsB os hs l m = k2B os hs l m l.length := by
  obtain ⟨hg, -⟩ := so_parts' hl
  obtain ⟨hh, -⟩ := so_parts' hm
  have i1 : imB hs m = true := by
    rw [imB_eq, hh, Bool.and_true, ordN_grp hh]
    exact List.all_eq_true.2 fun x hx => decide_eq_true (so_lt' hm x hx)
  have i2 : imB os l = true := by
    rw [imB_eq, hg, Bool.and_true, ordN_grp hg]
    exact List.all_eq_true.2 fun x hx => decide_eq_true (so_lt' hl x hx)
  have n1 : inB (l.length : Int) 1 6 = true := inB_true.2 (by omega)
  unfold fsB fmB fiB k2B
  rw [hl, hm, e, n1, i1, i2]
  simp
theorem fi_eq {os hs l b : List Int} (hl : soB os l = true) (hh : grpB hs = true) (hb : ∀ x ∈ b, 0 ≤ x ∧ x < (gn hs : Int)) (h6 : 1 ≤ l.length ∧ l.length ≤ 6) : ∀ {d : Nat} {m : List Int}, m.length + d = l.length → (∀ x ∈ m, x ∈ b) → m.Nodup → fiS os hs l b d m = fiI os hs l b d m
  | 0, m, hd, hm, hn => by
    unfold fiS fiI
    rw [fsB_eq hl ((soB_iff hh).2 ⟨fun x hx => hb x (hm x hx), hn⟩) h6 (by omega)]
  | d + 1, m, hd, hm, hn => by
    unfold fiS fiI
    refine findSome_congr fun x hx => ?_
    by_cases hxm : x ∈ m
    · rw [if_pos hxm]
      have : soB hs (m ++ [x]) = false := by
        cases e : soB hs (m ++ [x]) with
        | false => rfl
        | true =>
          have := ((soB_iff hh).1 e).2
          rw [List.nodup_append] at this
          exact absurd rfl (this.2.2 x hxm x (by simp))
      rw [this]
      simp
    · rw [if_neg hxm]
      have hn2 : (m ++ [x]).Nodup := by
        rw [List.nodup_append]
        refine ⟨hn, by simp, fun a ha c hc => ?_⟩
        simp at hc
        subst hc
        intro e
        subst e
        exact hxm ha
      have hm2 : ∀ y ∈ m ++ [x], y ∈ b := fun y hy => by
        rcases List.mem_append.1 hy with h | h
        · exact hm y h
        · simp at h; subst h; exact hx
      have hsm : soB hs (m ++ [x]) = true := (soB_iff hh).2 ⟨fun y hy => hb y (hm2 y hy), hn2⟩
      rw [hsm, Bool.true_and]
      cases e : kpB os hs l (m ++ [x]) (m.length + 1) with
      | true =>
        rw [if_pos rfl]
        exact fi_eq hl hh hb h6 (by simp; omega) hm2 hn2
      | false =>
        rw [if_neg (by decide), fiI_none (by simp; omega) (by rw [List.length_append]; exact e)]
theorem fiI_found {os hs l b : List Int} : ∀ {d : Nat} {m y : List Int}, m.length + d = l.length → (∀ x ∈ m, x ∈ b) → m.Nodup → fiI os hs l b d m = some y → y.length = l.length ∧ (∀ x ∈ y, x ∈ b) ∧ y.Nodup ∧ k2B os hs l y l.length = true
  | 0, m, y, hd, hm, hn, h => by
    unfold fiI at h
    split at h
    · rename_i hk
      obtain rfl : m = y := by simpa using h
      exact ⟨by omega, hm, hn, hk⟩
    · cases h
  | d + 1, m, y, hd, hm, hn, h => by
    unfold fiI at h
    obtain ⟨x, hx, e⟩ := findSome_some h
    split at e
    · cases e
    · rename_i hxm
      refine fiI_found (m := m ++ [x]) (by simp; omega) (fun z hz => ?_) ?_ e
      · rcases List.mem_append.1 hz with h | h
        · exact hm z h
        · simp at h; subst h; exact hx
      · rw [List.nodup_append]
        refine ⟨hn, by simp, fun a ha c hc => ?_⟩
        simp at hc
        subst hc
        intro e
        subst e
        exact hxm ha
/-- Whether FindFreimanIso looks, and what it finds. -/
def ffB (os hs : List Int) (a b : Int) : Bool := setB os a && (setB hs b && (decide (popc a.toNat = popc b.toNat) && inB (popc a.toNat : Int) 1 5))
noncomputable def ffO (os hs : List Int) (a b : Int) : Option (List Int) := if ffB os hs a b = true then fiI os hs (mems a.toNat) (mems b.toNat) (popc a.toNat) [] else none
theorem imF_bit {n : Nat} : ∀ {l : List Int} {a b : Nat}, imF n l a = some b → ∀ i, b.testBit i = true ↔ a.testBit i = true ∨ (i : Int) ∈ l
  | [], a, b, h, i => by cases h; simp
  | x :: t, a, b, h, i => by
    unfold imF at h
    split at h
    · rename_i hc
      rw [imF_bit h i, Nat.testBit_or, Bool.or_eq_true, Nat.testBit_two_pow, decide_eq_true_eq, List.mem_cons]
      constructor
      · rintro ((h1 | h1) | h1)
        · exact .inl h1
        · exact .inr (.inl (by omega))
        · exact .inr (.inr h1)
      · rintro (h1 | h1 | h1)
        · exact .inl (.inl h1)
        · exact .inl (.inr (by omega))
        · exact .inr h1
    · cases h
/-- What is found is an isomorphism onto the other set. -/
theorem ff_law {os hs : List Int} {a b : Int} {y : List Int} (h : ffO os hs a b = some y) : grpB hs = true ∧ (∃ A B : Nat, a = (A : Int) ∧ b = (B : Int) ∧ A < 2 ^ gn os ∧ (imV hs y : Int) = (B : Int) ∧ imB hs y = true ∧ fsB os hs (mems A) y = true) ∧ y.length ≤ 5 ∧ setB os a = true := by
  unfold ffO at h
  split at h
  · rename_i hf
    unfold ffB at hf
    simp only [Bool.and_eq_true, decide_eq_true_eq, inB_true] at hf
    obtain ⟨h1, h2, h3, h4⟩ := hf
    obtain ⟨hg, A, rfl, hA⟩ := setB_parts h1
    obtain ⟨hh, B, rfl, hB⟩ := setB_parts h2
    rw [(grp_gn hg).2.2.2.2] at hA
    rw [(grp_gn hh).2.2.2.2] at hB
    rw [Int.toNat_natCast] at h h3 h4
    rw [Int.toNat_natCast] at h h3
    have hla : (mems A).length = popc A := mems_length A
    have hlb : (mems B).length = popc B := mems_length B
    have hsB := soB_mems hh hB
    have hsA := soB_mems hg hA
    obtain ⟨y1, y2, y3, y4⟩ := fiI_found (by simp; omega) (by simp) List.nodup_nil h
    have hsy : soB hs y = true := (soB_iff hh).2 ⟨fun x hx => so_lt' hsB x (y2 x hx), y3⟩
    have hB64 := lt64 (show gn hs ≤ 64 by have := (grp_gn hh).2.2.1; omega) hB
    have i1 : imB hs y = true := by
      rw [imB_eq, hh, Bool.and_true, ordN_grp hh]
      exact List.all_eq_true.2 fun x hx => decide_eq_true (so_lt' hsy x hx)
    have iv : imV hs y = B := by
      unfold imB at i1
      rw [Bool.and_eq_true] at i1
      obtain ⟨r, hr⟩ := Option.isSome_iff_exists.1 i1.1
      unfold imV
      rw [hr, Option.getD_some]
      apply Nat.eq_of_testBit_eq
      intro i
      rw [Bool.eq_iff_iff, imF_bit hr]
      constructor
      · rintro (h | h)
        · simp at h
        · obtain ⟨j, hj, hb⟩ := (mems_mem hB64).1 (y2 _ h)
          obtain rfl : i = j := by omega
          exact hb
      · intro hb
        right
        have hmi : (i : Int) ∈ mems B := (mems_mem hB64).2 ⟨i, rfl, hb⟩
        refine Classical.byContradiction fun hn => ?_
        have := nodup_sub ((i : Int) :: y) (mems B) (List.nodup_cons.2 ⟨hn, y3⟩) (fun x hx => by
          rcases List.mem_cons.1 hx with h | h
          · rw [h]; exact hmi
          · exact y2 x h)
        simp only [List.length_cons] at this
        omega
    have fs : fsB os hs (mems A) y = true := by rw [fsB_eq hsA hsy (by omega) y1]; exact y4
    exact ⟨hh, ⟨A, B, rfl, rfl, hA, by rw [iv], i1, fs⟩, by omega, h1⟩
  · cases h
end Go.Proofs.Ytokpgbpdmfibjaa
