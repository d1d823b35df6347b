/-
Contracts of both sides' IsAutomorphism. Conditions: lengths at most 2000000.
-/
import Derived.Test.YtokpgbpdmfibjaaSto
import Derived.Test.YtokpgbpdmfibjaaCsf
namespace Go.Proofs.Ytokpgbpdmfibjaa
open Go.RowKit Go.ChangeShapes
set_option linter.unusedVariables false

/-- A list of numbers keeps sums. -/
def autAt (os f : List Int) (x y : Nat) : Prop := elt f (gadd os x y) = gadd os (elt f x) (elt f y)
def autP (os f : List Int) : Prop := ∀ x y, x < gn os → y < gn os → autAt os f x y
open Classical in
noncomputable def autB (os f : List Int) : Bool := soB os f && (decide (soV os f = 2 ^ gn os - 1) && decide (autP os f))
theorem so_parts {os f : List Int} (h : soB os f = true) : grpB os = true ∧ ∃ a, soF (gn os) f 0 = some a ∧ soV os f = a := by
  unfold soB at h
  rw [Bool.and_eq_true] at h
  obtain ⟨h1, h2⟩ := h
  obtain ⟨a, ha⟩ := Option.isSome_iff_exists.1 h1
  exact ⟨h2, a, by rw [← ordN_grp h2]; exact ha, by simp [soV, ha]⟩
/-- A list that has each element once has as many as there are. -/
theorem so_len {os f : List Int} (h : soB os f = true) (hf : soV os f = 2 ^ gn os - 1) : f.length = gn os := by
  obtain ⟨hg, a, ha, hv⟩ := so_parts h
  obtain ⟨g2, g3, g4, g5, g6⟩ := grp_gn hg
  have h1 := soF_popc g4 ha
  rw [← hv, hf, popc_full (by omega), popc_zero] at h1
  omega
theorem so_lt {os f : List Int} (h : soB os f = true) : ∀ x ∈ f, 0 ≤ x ∧ x < (gn os : Int) := by
  obtain ⟨hg, a, ha, hv⟩ := so_parts h
  exact soF_mem ha
theorem so_sz {os f : List Int} (h : soB os f = true) : soV os f < 2 ^ gn os := by
  obtain ⟨hg, a, ha, hv⟩ := so_parts h
  obtain ⟨g2, g3, g4, g5, g6⟩ := grp_gn hg
  rw [hv]
  exact soF_lt g4 ha (Nat.two_pow_pos _)

set_option maxRecDepth 20000 in
set_option maxHeartbeats 6400000 in
theorem aut_impl (a0 : Option Addr) (c0 : Nat) (os : List Int) (a1 : Option Addr) (c1 : Nat) (f : List Int) (w : World) (h0 : Ints w a0 c0 os) (k0 : Ints w a1 c1 f) (hl : os.length ≤ 2000000) (hlf : f.length ≤ 2000000) :
    Calls Try.prog 17 #[.agg #[.slice a0 os.length c0], .slice a1 f.length c1] w fun e w' => e = .returned (.bool (autB os f)) ∧ Below w.heap.size w w' := by
  have hb0 := (Below.refl w.heap.size w).alloc (Nat.le_refl _) (.cells #[.slice a0 os.length c0] 26)
  have h1 := h0.below hb0 (Nat.le_refl _)
  have k1 := k0.below hb0 (Nat.le_refl _)
  have C := Lib.hid (fun w h h' => setOf_impl a0 c0 os a1 c1 f w h h' hl hlf)
  cases hs : soB os f with
  | false =>
    have e : autB os f = false := by simp [autB, hs]
    rw [e]
    rw [hs] at C
    obtain ⟨V, hV⟩ : ∃ V, V = soV os f := ⟨_, rfl⟩
    rw [← hV] at C
    clear hs e hV
    go_enter Try.func17, Try.ntmps17
    go_wp2_with fail
    refine (C.out _ h1 k1).mono ?_; rintro e w1 ⟨rfl, b1⟩
    go_wp2_with fail
    go_ret
    exact ⟨rfl, nx hb0 b1⟩
  | true =>
    obtain ⟨hg0, -⟩ := so_parts hs
    obtain ⟨g2, g3, g4, g5, g6⟩ := grp_gn hg0
    have hsz := so_sz hs
    have hT := setT_bd hg0
    rw [hs] at C
    have CF := Lib.hid (fun w h => fullSet_any a0 c0 os w h hl hg0)
    rw [g6] at CF
    by_cases hfull : soV os f = 2 ^ gn os - 1
    · have hlen := so_len hs hfull
      have hmem := so_lt hs
      have e : ∃ r, autB os f = r ∧ ((autP os f ∧ r = true) ∨ (¬ autP os f ∧ r = false)) := by
        by_cases hp : autP os f
        · exact ⟨true, by simp [autB, hs, hfull, hp], .inl ⟨hp, rfl⟩⟩
        · exact ⟨false, by simp [autB, hp], .inr ⟨hp, rfl⟩⟩
      obtain ⟨r, hr0, hr⟩ := e
      rw [hr0]
      rw [hfull] at C
      have HR := Lib.hid hr
      have CA := Lib.hid (fun x y w h hx hy => add_any a0 c0 os x y w h hg0 hx hy)
      have HZ := Lib.hid (fun x y => gadd_lt' g2 x y)
      have HM := Lib.hid (fun (x : Int) hx => (show 0 ≤ x ∧ x < 64 from by have := hmem x hx; omega))
      have HCS := Lib.hid k0.2.2.2.2
      rw [g6] at hT
      obtain ⟨n, hn⟩ : ∃ n, n = gn os := ⟨_, rfl⟩
      rw [← hn] at g3 g4 C CF HZ hlen hT
      have HN := Lib.hid hn
      have hln : (f.length : Int) = (n : Int) := by omega
      have HLN := Lib.hid hln
      have hle1 : f.length ≤ n ∧ n ≤ f.length := by omega
      obtain ⟨U, hU⟩ : ∃ U, U = 2 ^ n := ⟨_, rfl⟩
      rw [← hU] at C hT CF
      
      
      
      
      
      
      clear hs hfull hmem hr0 hr hg0 g2 g5 g6 hsz hn hln hlen hU
      go_enter Try.func17, Try.ntmps17
      go_wp2_with fail
      refine (C.out _ h1 k1).mono ?_; rintro e w1 ⟨rfl, b1⟩
      have q1 := box_cell b1 (by simp)
      have z1 : w.heap.size < w1.heap.size := by have := b1.size; simp at this; omega
      have h2 := h1.below b1 (Nat.le_refl _)
      have hb1 := nx hb0 b1
      go_wp2_with fail
      refine (CF.out _ h2).mono ?_; rintro e w2 ⟨rfl, b2⟩
      have q2 := (b2.cell (p := ⟨w.heap.size, 0, none⟩) z1).trans q1
      have z2 := Nat.lt_of_lt_of_le z1 b2.size
      have hb2 := nx hb1 b2
      clear b1 b2 q1 z1 h1 h2 k1 hb0 hb1 C CF
      go_wp2_with fail
      go_loopw [25] (fun vx wr => ∃ x : Nat, x ≤ f.length ∧ vx = .int .i64 (x : Int) ∧ Hid (∀ x' y, x' < x → y < n → autAt os f x' y) ∧ Below w.heap.size w wr ∧ wr.cell? ⟨w.heap.size, 0, none⟩ = some (.slice a0 os.length c0) ∧ w.heap.size < wr.heap.size) (fun x _ => (f.length - intOf x).toNat)
      case atStart => exact ⟨0, by omega, rfl, Lib.hid (fun _ _ h => by omega), hb2, q2, z2⟩
      case round =>
        clear hb2 q2 z2
        obtain ⟨x, hx, rfl, HI, hbel, q3, z3⟩ := hrel
        by_cases hlx : x < f.length
        · have hltb : decide ((x : Int) < (f.length : Int)) = true := by simp; omega
          go_wp2_with fail
          go_loopw [30] (fun vy wr => ∃ y : Nat, y ≤ f.length ∧ vy = .int .i64 (y : Int) ∧ Hid (∀ y', y' < y → autAt os f x y') ∧ Below w.heap.size w wr ∧ wr.cell? ⟨w.heap.size, 0, none⟩ = some (.slice a0 os.length c0) ∧ w.heap.size < wr.heap.size) (fun x _ => (f.length - intOf x).toNat)
          case atStart => exact ⟨0, by omega, rfl, Lib.hid (fun _ h => by omega), hbel, q3, z3⟩
          case round =>
            clear hbel q3 z3
            obtain ⟨y, hy, rfl, HJ, hbel, q3, z3⟩ := hrel
            by_cases hly : y < f.length
            · have hltb2 : decide ((y : Int) < (f.length : Int)) = true := by simp; omega
              rcases HCS.out with hcs | ⟨b, off, rfl, hbB, hcell⟩
              · subst hcs; simp at hly
              · have h3 := h0.below hbel (Nat.le_refl _)
                have hz := HZ.out x y
                have CZ := Lib.hid (fun w h => CA.out x y w h (by omega) (by omega))
                obtain ⟨ex, nx1⟩ := elt_at hlx HM.out
                obtain ⟨ey, ny1⟩ := elt_at hly HM.out
                have d1 := hcell x hlx
                rw [ex] at d1
                have d2 := hcell y hly
                rw [ey] at d2
                have d3 := hcell (gadd os x y) (by omega)
                rw [(elt_at (show gadd os x y < f.length by omega) HM.out).1] at d3
                have CP := Lib.hid (fun w h => CA.out (elt f x) (elt f y) w h (by omega) (by omega))
                have HAT : Hid (autAt os f x y ↔ elt f (gadd os x y) = gadd os (elt f x) (elt f y)) := Lib.hid Iff.rfl
                have HNX : Hid (autAt os f x y → ∀ y', y' < y + 1 → autAt os f x y') := Lib.hid (fun h y' g => by
                  by_cases e : y' = y
                  · subst e; exact h
                  · exact HJ.out y' (by omega))
                have HNO : Hid (¬ autAt os f x y → r = false) := Lib.hid (fun h => by
                  rcases HR.out with ⟨hp, _⟩ | ⟨_, e⟩
                  · exact absurd (hp x y (by rw [← HN.out]; omega) (by rw [← HN.out]; omega)) h
                  · exact e)
                obtain ⟨z, hzz⟩ : ∃ z, z = gadd os x y := ⟨_, rfl⟩
                rw [← hzz] at hz CZ d3 HAT
                obtain ⟨u, hu⟩ : ∃ u, u = elt f x := ⟨_, rfl⟩
                obtain ⟨v, hv⟩ : ∃ v, v = elt f y := ⟨_, rfl⟩
                obtain ⟨t, ht⟩ : ∃ t, t = elt f z := ⟨_, rfl⟩
                rw [← hu] at d1 CP HAT
                rw [← hv] at d2 CP HAT
                rw [← ht] at d3 HAT
                obtain ⟨p, hp⟩ : ∃ p, p = gadd os u v := ⟨_, rfl⟩
                rw [← hp] at CP HAT
                have c1 := (hbel.cell (p := ⟨b, off + x, none⟩) hbB).trans d1
                have c2 := (hbel.cell (p := ⟨b, off + y, none⟩) hbB).trans d2
                have c3 := (hbel.cell (p := ⟨b, off + z, none⟩) hbB).trans d3
                have zb : b < wr.heap.size := Nat.lt_of_lt_of_le hbB hbel.size
                have l1 : (x : Int) < f.length := by omega
                have l2 : (y : Int) < f.length := by omega
                have l3 : (z : Int) < f.length := by omega
                have l4 : z < f.length := by omega
                clear hzz hu hv ht hp hcell d1 d2 d3 ex ey
                by_cases htp : t = p
                · have hbq : ((t : Int) != (p : Int)) = false := by rw [htp]; simp
                  have HJ2 := Lib.hid (HNX.out (HAT.out.2 htp))
                  clear HAT HNX HNO HJ htp HM HZ CA HI
                  go_wp2_with fail
                  go_region_held3 (fun w' => w'.cell? ⟨w.heap.size, 0, none⟩ = some (.slice a0 os.length c0) ∧ w'.cell? ⟨b, off + x, none⟩ = some (.int .i64 u) ∧ w'.cell? ⟨b, off + y, none⟩ = some (.int .i64 v) ∧ w'.cell? ⟨b, off + z, none⟩ = some (.int .i64 t)) (exact ⟨by assumption, by assumption, by assumption, by assumption⟩) (first
                    | (go_at_call 79; refine (CP.out _ h5).mono ?_; rintro e w7 ⟨rfl, b7⟩; have y0 := (b7.cell (p := ⟨w.heap.size, 0, none⟩) (Nat.lt_of_lt_of_le z3 b6.size)).trans p0; have y1 := (b7.cell (p := ⟨b, off + x, none⟩) (Nat.lt_of_lt_of_le zb b6.size)).trans p1; have y2 := (b7.cell (p := ⟨b, off + y, none⟩) (Nat.lt_of_lt_of_le zb b6.size)).trans p2; have y3 := (b7.cell (p := ⟨b, off + z, none⟩) (Nat.lt_of_lt_of_le zb b6.size)).trans p3)
                    | (go_at_call 79; refine (CZ.out _ h3.drew).mono ?_; rintro e w6 ⟨rfl, b6⟩; have h5 := h3.below (below_undrew b6) (Nat.le_refl _); have p0 := (b6.cell (p := ⟨w.heap.size, 0, none⟩) z3).trans q3; have p1 := (b6.cell (p := ⟨b, off + x, none⟩) zb).trans c1; have p2 := (b6.cell (p := ⟨b, off + y, none⟩) zb).trans c2; have p3 := (b6.cell (p := ⟨b, off + z, none⟩) zb).trans c3))
                  go_wp2_with fail
                  go_roundw
                  case rel => exact ⟨y + 1, by omega, by go_num, HJ2, nx hbel (nx (below_undrew b6) b7), y0, Nat.lt_of_lt_of_le (Nat.lt_of_lt_of_le z3 b6.size) b7.size⟩
                  case measure => simp [intOf]; omega
                · have hbq : ((t : Int) != (p : Int)) = true := by simp; omega
                  have e := HNO.out (fun h => htp (HAT.out.1 h))
                  subst e
                  clear HAT HNX HNO HJ htp HR HM HZ CA HI
                  go_wp2_with fail
                  go_region_held3 (fun w' => w'.cell? ⟨w.heap.size, 0, none⟩ = some (.slice a0 os.length c0) ∧ w'.cell? ⟨b, off + x, none⟩ = some (.int .i64 u) ∧ w'.cell? ⟨b, off + y, none⟩ = some (.int .i64 v) ∧ w'.cell? ⟨b, off + z, none⟩ = some (.int .i64 t)) (exact ⟨by assumption, by assumption, by assumption, by assumption⟩) (first
                    | (go_at_call 79; refine (CP.out _ h5).mono ?_; rintro e w7 ⟨rfl, b7⟩; have y0 := (b7.cell (p := ⟨w.heap.size, 0, none⟩) (Nat.lt_of_lt_of_le z3 b6.size)).trans p0; have y1 := (b7.cell (p := ⟨b, off + x, none⟩) (Nat.lt_of_lt_of_le zb b6.size)).trans p1; have y2 := (b7.cell (p := ⟨b, off + y, none⟩) (Nat.lt_of_lt_of_le zb b6.size)).trans p2; have y3 := (b7.cell (p := ⟨b, off + z, none⟩) (Nat.lt_of_lt_of_le zb b6.size)).trans p3)
                    | (go_at_call 79; refine (CZ.out _ h3.drew).mono ?_; rintro e w6 ⟨rfl, b6⟩; have h5 := h3.below (below_undrew b6) (Nat.le_refl _); have p0 := (b6.cell (p := ⟨w.heap.size, 0, none⟩) z3).trans q3; have p1 := (b6.cell (p := ⟨b, off + x, none⟩) zb).trans c1; have p2 := (b6.cell (p := ⟨b, off + y, none⟩) zb).trans c2; have p3 := (b6.cell (p := ⟨b, off + z, none⟩) zb).trans c3))
                  go_wp2_with fail
                  go_ret
                  exact ⟨rfl, nx hbel (nx (below_undrew b6) b7)⟩
            · have HI2 : Hid (∀ x' y, x' < x + 1 → y < n → autAt os f x' y) := Lib.hid (fun x' y' g1 g2 => by
                by_cases e : x' = x
                · subst e; exact HJ.out y' (by omega)
                · exact HI.out x' y' (by omega) g2)
              clear HI HJ
              go_wp2_with fail
              go_roundw
              case rel => exact ⟨x + 1, by omega, by go_num, HI2, hbel, q3, z3⟩
              case measure => simp [intOf]; omega
        · have e : r = true := by
            rcases HR.out with ⟨_, e⟩ | ⟨hp, _⟩
            · exact e
            · exact absurd (fun x' y' g1 g2 => HI.out x' y' (by rw [← HN.out] at g1; omega) (by rw [HN.out]; exact g2)) hp
          subst e
          clear HI HR HCS
          go_wp2_with fail
          go_ret
          exact ⟨rfl, hbel⟩
    · have e : autB os f = false := by simp [autB, hfull]
      rw [e]
      rw [g6] at hT
      obtain ⟨V, hV⟩ : ∃ V, V = soV os f := ⟨_, rfl⟩
      rw [← hV] at C hfull hsz
      obtain ⟨n, hn⟩ : ∃ n, n = gn os := ⟨_, rfl⟩
      rw [← hn] at g3 g4 CF hT hfull hsz
      obtain ⟨U, hU⟩ : ∃ U, U = 2 ^ n := ⟨_, rfl⟩
      rw [← hU] at hT hfull hsz CF
      
      have hne : ((V : Int) != ((U - 1 : Nat) : Int)) = true := by simp; omega
      clear hs e hV hn hg0 g2 g5 g6 hU hfull
      go_enter Try.func17, Try.ntmps17
      go_wp2_with fail
      refine (C.out _ h1 k1).mono ?_; rintro e w1 ⟨rfl, b1⟩
      have q1 := box_cell b1 (by simp)
      have h2 := h1.below b1 (Nat.le_refl _)
      have hb1 := nx hb0 b1
      go_wp2_with fail
      refine (CF.out _ h2).mono ?_; rintro e w2 ⟨rfl, b2⟩
      go_wp2_with fail
      go_ret
      exact ⟨rfl, nx hb1 b2⟩

set_option maxRecDepth 20000 in
set_option maxHeartbeats 6400000 in
theorem aut_spec (a0 : Option Addr) (c0 : Nat) (os : List Int) (a1 : Option Addr) (c1 : Nat) (f : List Int) (w : World) (h0 : Ints w a0 c0 os) (k0 : Ints w a1 c1 f) (hl : os.length ≤ 2000000) (hlf : f.length ≤ 2000000) :
    Calls Try.prog 30 #[.agg #[.slice a0 os.length c0], .slice a1 f.length c1] w fun e w' => e = .returned (.bool (autB os f)) ∧ Below w.heap.size w w' := by
  have hb0 := (Below.refl w.heap.size w).alloc (Nat.le_refl _) (.cells #[.slice a0 os.length c0] 26)
  have h1 := h0.below hb0 (Nat.le_refl _)
  have k1 := k0.below hb0 (Nat.le_refl _)
  have C := Lib.hid (fun w h h' => setOf_spec a0 c0 os a1 c1 f w h h' hl hlf)
  cases hs : soB os f with
  | false =>
    have e : autB os f = false := by simp [autB, hs]
    rw [e]
    rw [hs] at C
    obtain ⟨V, hV⟩ : ∃ V, V = soV os f := ⟨_, rfl⟩
    rw [← hV] at C
    clear hs e hV
    go_enter Try.func30, Try.ntmps30
    go_wp2_with fail
    refine (C.out _ h1 k1).mono ?_; rintro e w1 ⟨rfl, b1⟩
    go_wp2_with fail
    go_ret
    exact ⟨rfl, nx hb0 b1⟩
  | true =>
    obtain ⟨hg0, -⟩ := so_parts hs
    obtain ⟨g2, g3, g4, g5, g6⟩ := grp_gn hg0
    have hsz := so_sz hs
    have hT := setT_bd hg0
    rw [hs] at C
    have CO := Lib.hid (fun w h => l2Order_any a0 c0 os w h hg0)
    rw [← g5] at CO
    by_cases hfull : soV os f = 2 ^ gn os - 1
    · have hlen := so_len hs hfull
      have hmem := so_lt hs
      have e : ∃ r, autB os f = r ∧ ((autP os f ∧ r = true) ∨ (¬ autP os f ∧ r = false)) := by
        by_cases hp : autP os f
        · exact ⟨true, by simp [autB, hs, hfull, hp], .inl ⟨hp, rfl⟩⟩
        · exact ⟨false, by simp [autB, hp], .inr ⟨hp, rfl⟩⟩
      obtain ⟨r, hr0, hr⟩ := e
      rw [hr0]
      rw [hfull] at C
      have HR := Lib.hid hr
      have CA := Lib.hid (fun x y w h hx hy => l2Add_any a0 c0 os x y w h hg0 hx hy)
      have HZ := Lib.hid (fun x y => gadd_lt' g2 x y)
      have HM := Lib.hid (fun (x : Int) hx => (show 0 ≤ x ∧ x < 64 from by have := hmem x hx; omega))
      have HCS := Lib.hid k0.2.2.2.2
      rw [g6] at hT
      obtain ⟨n, hn⟩ : ∃ n, n = gn os := ⟨_, rfl⟩
      rw [← hn] at g3 g4 C CO HZ hlen hT
      have HN := Lib.hid hn
      have hln : (f.length : Int) = (n : Int) := by omega
      have HLN := Lib.hid hln
      have hle1 : f.length ≤ n ∧ n ≤ f.length := by omega
      obtain ⟨U, hU⟩ : ∃ U, U = 2 ^ n := ⟨_, rfl⟩
      rw [← hU] at C hT
      have hw : IntKind.i64.wrap (2 ^ n) = (U : Int) := by rw [pow_wrap62 n (by omega), hU]; simp
      have hne1 : ((f.length : Int) != (n : Int)) = false := by simp; omega
      have hne2 : (((U - 1 : Nat) : Int) != (U : Int) - 1) = false := by simp; omega
      have hne3 : ((U - 1 : Nat) : Int) = (U : Int) - 1 := by omega
      rw [hne3] at C
      clear hne2 hne3
      clear hs hfull hmem hr0 hr hg0 g2 g5 g6 hsz hn hln hlen hU
      go_enter Try.func30, Try.ntmps30
      go_wp2_with fail
      refine (C.out _ h1 k1).mono ?_; rintro e w1 ⟨rfl, b1⟩
      have q1 := box_cell b1 (by simp)
      have z1 : w.heap.size < w1.heap.size := by have := b1.size; simp at this; omega
      have h2 := h1.below b1 (Nat.le_refl _)
      have hb1 := nx hb0 b1
      go_wp2_with fail
      refine (CO.out _ h2).mono ?_; rintro e w3 ⟨rfl, b3⟩
      have q3 := (b3.cell (p := ⟨w.heap.size, 0, none⟩) z1).trans q1
      have z3 := Nat.lt_of_lt_of_le z1 b3.size
      have h3 := h2.below b3 (Nat.le_refl _)
      have hb3 := nx hb1 b3
      go_wp2_with fail
      refine (CO.out _ h3).mono ?_; rintro e w2 ⟨rfl, b2⟩
      have q2 := (b2.cell (p := ⟨w.heap.size, 0, none⟩) z3).trans q3
      have z2 := Nat.lt_of_lt_of_le z3 b2.size
      have hb2 := nx hb3 b2
      clear b1 b2 b3 q1 z1 q3 z3 h1 h2 h3 k1 hb0 hb1 hb3 C CO hne1
      go_wp2_with fail
      go_loopw [7] (fun vx wr => ∃ x : Nat, x ≤ f.length ∧ vx = .int .i64 (x : Int) ∧ Hid (∀ x' y, x' < x → y < n → autAt os f x' y) ∧ Below w.heap.size w wr ∧ wr.cell? ⟨w.heap.size, 0, none⟩ = some (.slice a0 os.length c0) ∧ w.heap.size < wr.heap.size) (fun x _ => (f.length - intOf x).toNat)
      case atStart => exact ⟨0, by omega, rfl, Lib.hid (fun _ _ h => by omega), hb2, q2, z2⟩
      case round =>
        clear hb2 q2 z2
        obtain ⟨x, hx, rfl, HI, hbel, q3, z3⟩ := hrel
        by_cases hlx : x < f.length
        · have hltb : decide ((x : Int) < (f.length : Int)) = true := by simp; omega
          go_wp2_with fail
          go_loopw [8] (fun vy wr => ∃ y : Nat, y ≤ f.length ∧ vy = .int .i64 (y : Int) ∧ Hid (∀ y', y' < y → autAt os f x y') ∧ Below w.heap.size w wr ∧ wr.cell? ⟨w.heap.size, 0, none⟩ = some (.slice a0 os.length c0) ∧ w.heap.size < wr.heap.size) (fun x _ => (f.length - intOf x).toNat)
          case atStart => exact ⟨0, by omega, rfl, Lib.hid (fun _ h => by omega), hbel, q3, z3⟩
          case round =>
            clear hbel q3 z3
            obtain ⟨y, hy, rfl, HJ, hbel, q3, z3⟩ := hrel
            by_cases hly : y < f.length
            · have hltb2 : decide ((y : Int) < (f.length : Int)) = true := by simp; omega
              rcases HCS.out with hcs | ⟨b, off, rfl, hbB, hcell⟩
              · subst hcs; simp at hly
              · have h3 := h0.below hbel (Nat.le_refl _)
                have hz := HZ.out x y
                have CZ := Lib.hid (fun w h => CA.out x y w h (by omega) (by omega))
                obtain ⟨ex, nx1⟩ := elt_at hlx HM.out
                obtain ⟨ey, ny1⟩ := elt_at hly HM.out
                have d1 := hcell x hlx
                rw [ex] at d1
                have d2 := hcell y hly
                rw [ey] at d2
                have d3 := hcell (gadd os x y) (by omega)
                rw [(elt_at (show gadd os x y < f.length by omega) HM.out).1] at d3
                have CP := Lib.hid (fun w h => CA.out (elt f x) (elt f y) w h (by omega) (by omega))
                have HAT : Hid (autAt os f x y ↔ elt f (gadd os x y) = gadd os (elt f x) (elt f y)) := Lib.hid Iff.rfl
                have HNX : Hid (autAt os f x y → ∀ y', y' < y + 1 → autAt os f x y') := Lib.hid (fun h y' g => by
                  by_cases e : y' = y
                  · subst e; exact h
                  · exact HJ.out y' (by omega))
                have HNO : Hid (¬ autAt os f x y → r = false) := Lib.hid (fun h => by
                  rcases HR.out with ⟨hp, _⟩ | ⟨_, e⟩
                  · exact absurd (hp x y (by rw [← HN.out]; omega) (by rw [← HN.out]; omega)) h
                  · exact e)
                obtain ⟨z, hzz⟩ : ∃ z, z = gadd os x y := ⟨_, rfl⟩
                rw [← hzz] at hz CZ d3 HAT
                obtain ⟨u, hu⟩ : ∃ u, u = elt f x := ⟨_, rfl⟩
                obtain ⟨v, hv⟩ : ∃ v, v = elt f y := ⟨_, rfl⟩
                obtain ⟨t, ht⟩ : ∃ t, t = elt f z := ⟨_, rfl⟩
                rw [← hu] at d1 CP HAT
                rw [← hv] at d2 CP HAT
                rw [← ht] at d3 HAT
                obtain ⟨p, hp⟩ : ∃ p, p = gadd os u v := ⟨_, rfl⟩
                rw [← hp] at CP HAT
                have c1 := (hbel.cell (p := ⟨b, off + x, none⟩) hbB).trans d1
                have c2 := (hbel.cell (p := ⟨b, off + y, none⟩) hbB).trans d2
                have c3 := (hbel.cell (p := ⟨b, off + z, none⟩) hbB).trans d3
                have zb : b < wr.heap.size := Nat.lt_of_lt_of_le hbB hbel.size
                have l1 : (x : Int) < f.length := by omega
                have l2 : (y : Int) < f.length := by omega
                have l3 : (z : Int) < f.length := by omega
                have l4 : z < f.length := by omega
                clear hzz hu hv ht hp hcell d1 d2 d3 ex ey
                by_cases htp : t = p
                · have hbq : ((t : Int) != (p : Int)) = false := by rw [htp]; simp
                  have HJ2 := Lib.hid (HNX.out (HAT.out.2 htp))
                  clear HAT HNX HNO HJ htp HM HZ CA HI
                  go_wp2_with fail
                  go_region_held3 (fun w' => w'.cell? ⟨w.heap.size, 0, none⟩ = some (.slice a0 os.length c0) ∧ w'.cell? ⟨b, off + x, none⟩ = some (.int .i64 u) ∧ w'.cell? ⟨b, off + y, none⟩ = some (.int .i64 v) ∧ w'.cell? ⟨b, off + z, none⟩ = some (.int .i64 t)) (exact ⟨by assumption, by assumption, by assumption, by assumption⟩) (first
                    | (go_at_call 102; refine (CP.out _ h5).mono ?_; rintro e w7 ⟨rfl, b7⟩; have y0 := (b7.cell (p := ⟨w.heap.size, 0, none⟩) (Nat.lt_of_lt_of_le z3 b6.size)).trans p0; have y1 := (b7.cell (p := ⟨b, off + x, none⟩) (Nat.lt_of_lt_of_le zb b6.size)).trans p1; have y2 := (b7.cell (p := ⟨b, off + y, none⟩) (Nat.lt_of_lt_of_le zb b6.size)).trans p2; have y3 := (b7.cell (p := ⟨b, off + z, none⟩) (Nat.lt_of_lt_of_le zb b6.size)).trans p3)
                    | (go_at_call 102; refine (CZ.out _ h3.drew).mono ?_; rintro e w6 ⟨rfl, b6⟩; have h5 := h3.below (below_undrew b6) (Nat.le_refl _); have p0 := (b6.cell (p := ⟨w.heap.size, 0, none⟩) z3).trans q3; have p1 := (b6.cell (p := ⟨b, off + x, none⟩) zb).trans c1; have p2 := (b6.cell (p := ⟨b, off + y, none⟩) zb).trans c2; have p3 := (b6.cell (p := ⟨b, off + z, none⟩) zb).trans c3))
                  go_wp2_with fail
                  go_roundw
                  case rel => exact ⟨y + 1, by omega, by go_num, HJ2, nx hbel (nx (below_undrew b6) b7), y0, Nat.lt_of_lt_of_le (Nat.lt_of_lt_of_le z3 b6.size) b7.size⟩
                  case measure => simp [intOf]; omega
                · have hbq : ((t : Int) != (p : Int)) = true := by simp; omega
                  have e := HNO.out (fun h => htp (HAT.out.1 h))
                  subst e
                  clear HAT HNX HNO HJ htp HR HM HZ CA HI
                  go_wp2_with fail
                  go_region_held3 (fun w' => w'.cell? ⟨w.heap.size, 0, none⟩ = some (.slice a0 os.length c0) ∧ w'.cell? ⟨b, off + x, none⟩ = some (.int .i64 u) ∧ w'.cell? ⟨b, off + y, none⟩ = some (.int .i64 v) ∧ w'.cell? ⟨b, off + z, none⟩ = some (.int .i64 t)) (exact ⟨by assumption, by assumption, by assumption, by assumption⟩) (first
                    | (go_at_call 102; refine (CP.out _ h5).mono ?_; rintro e w7 ⟨rfl, b7⟩; have y0 := (b7.cell (p := ⟨w.heap.size, 0, none⟩) (Nat.lt_of_lt_of_le z3 b6.size)).trans p0; have y1 := (b7.cell (p := ⟨b, off + x, none⟩) (Nat.lt_of_lt_of_le zb b6.size)).trans p1; have y2 := (b7.cell (p := ⟨b, off + y, none⟩) (Nat.lt_of_lt_of_le zb b6.size)).trans p2; have y3 := (b7.cell (p := ⟨b, off + z, none⟩) (Nat.lt_of_lt_of_le zb b6.size)).trans p3)
                    | (go_at_call 102; refine (CZ.out _ h3.drew).mono ?_; rintro e w6 ⟨rfl, b6⟩; have h5 := h3.below (below_undrew b6) (Nat.le_refl _); have p0 := (b6.cell (p := ⟨w.heap.size, 0, none⟩) z3).trans q3; have p1 := (b6.cell (p := ⟨b, off + x, none⟩) zb).trans c1; have p2 := (b6.cell (p := ⟨b, off + y, none⟩) zb).trans c2; have p3 := (b6.cell (p := ⟨b, off + z, none⟩) zb).trans c3))
                  go_wp2_with fail
                  go_ret
                  exact ⟨rfl, nx hbel (nx (below_undrew b6) b7)⟩
            · have HI2 : Hid (∀ x' y, x' < x + 1 → y < n → autAt os f x' y) := Lib.hid (fun x' y' g1 g2 => by
                by_cases e : x' = x
                · subst e; exact HJ.out y' (by omega)
                · exact HI.out x' y' (by omega) g2)
              clear HI HJ
              go_wp2_with fail
              go_roundw
              case rel => exact ⟨x + 1, by omega, by go_num, HI2, hbel, q3, z3⟩
              case measure => simp [intOf]; omega
        · have e : r = true := by
            rcases HR.out with ⟨_, e⟩ | ⟨hp, _⟩
            · exact e
            · exact absurd (fun x' y' g1 g2 => HI.out x' y' (by rw [← HN.out] at g1; omega) (by rw [HN.out]; exact g2)) hp
          subst e
          clear HI HR HCS
          go_wp2_with fail
          go_ret
          exact ⟨rfl, hbel⟩
    · have e : autB os f = false := by simp [autB, hfull]
      rw [e]
      rw [g6] at hT
      obtain ⟨V, hV⟩ : ∃ V, V = soV os f := ⟨_, rfl⟩
      rw [← hV] at C hfull hsz
      obtain ⟨n, hn⟩ : ∃ n, n = gn os := ⟨_, rfl⟩
      rw [← hn] at g3 g4 CO hT hfull hsz
      obtain ⟨U, hU⟩ : ∃ U, U = 2 ^ n := ⟨_, rfl⟩
      rw [← hU] at hT hfull hsz
      have hw : IntKind.i64.wrap (2 ^ n) = (U : Int) := by rw [pow_wrap62 n (by omega), hU]; simp
      have hne : ((V : Int) != (U : Int) - 1) = true := by simp; omega
      clear hs e hV hn hg0 g2 g5 g6 hU hfull
      by_cases hfn : f.length = n
      · have hne1 : ((f.length : Int) != (n : Int)) = false := by simp; omega
        clear hfn
        go_enter Try.func30, Try.ntmps30
        go_wp2_with fail
        refine (C.out _ h1 k1).mono ?_; rintro e w1 ⟨rfl, b1⟩
        have q1 := box_cell b1 (by simp)
        have z1 : w.heap.size < w1.heap.size := by have := b1.size; simp at this; omega
        have h2 := h1.below b1 (Nat.le_refl _)
        have hb1 := nx hb0 b1
        go_wp2_with fail
        refine (CO.out _ h2).mono ?_; rintro e w3 ⟨rfl, b3⟩
        have q3 := (b3.cell (p := ⟨w.heap.size, 0, none⟩) z1).trans q1
        have h3 := h2.below b3 (Nat.le_refl _)
        have hb3 := nx hb1 b3
        go_wp2_with fail
        refine (CO.out _ h3).mono ?_; rintro e w2 ⟨rfl, b2⟩
        go_wp2_with fail
        go_ret
        exact ⟨rfl, nx hb3 b2⟩
      · have hne1 : ((f.length : Int) != (n : Int)) = true := by simp; omega
        clear hfn
        go_enter Try.func30, Try.ntmps30
        go_wp2_with fail
        refine (C.out _ h1 k1).mono ?_; rintro e w1 ⟨rfl, b1⟩
        have q1 := box_cell b1 (by simp)
        have h2 := h1.below b1 (Nat.le_refl _)
        have hb1 := nx hb0 b1
        go_wp2_with fail
        refine (CO.out _ h2).mono ?_; rintro e w3 ⟨rfl, b3⟩
        go_wp2_with fail
        go_ret
        exact ⟨rfl, nx hb1 b3⟩
end Go.Proofs.Ytokpgbpdmfibjaa
