/-
Contract of the law's sameLists at two equal lists of lists. Conditions: at most 1000000 lists of at most 1000000 numbers.
-/
import Derived.Test.YtokpgbpdmfibjaaRws
import Derived.Test.YtokpgbpdmfibjaaSmi
namespace Go.Proofs.Ytokpgbpdmfibjaa
open Go.ChangeShapes Go.RowKit
set_option linter.unusedVariables false

theorem RdR.drewNI {w : World} {a : Option Addr} {n : Nat} {R : Nat → List Int} {vs : List Value} (h : RdR w a n R vs) (q : Nat) : RdR (w.drewN q) a n R vs := ⟨h.cells, h.row⟩
theorem Ints.drewNI {w : World} {a : Option Addr} {c : Nat} {xs : List Int} (h : Ints w a c xs) (q : Nat) : Ints (w.drewN q) a c xs := h
set_option maxRecDepth 20000 in
set_option maxHeartbeats 1600000 in
theorem sameLists_refl (a0 a1 : Option Addr) (c0 c1 n : Nat) (R : Nat → List Int) (us vs : List Value) (w : World) (h0 : RdR w a0 n R us) (h1 : RdR w a1 n R vs) (hn : n ≤ 1000000) (hl : ∀ i, (R i).length ≤ 1000000) :
    Calls Try.prog 10 #[.slice a0 n c0, .slice a1 n c1] w fun e w' => e = .returned (.bool true) ∧ Below w.heap.size w w' := by
  have H0 := Lib.hid h0
  have H1 := Lib.hid h1
  have HL := Lib.hid hl
  clear h0 h1 hl
  go_enter Try.func10, Try.ntmps10
  go_wp2_with fail
  go_loopw [5] (fun vi wr => ∃ k : Nat, k ≤ n ∧ vi = .int .i64 (k : Int) ∧ Below w.heap.size w wr) (fun i _ => n - (intOf i).toNat)
  case atStart => exact ⟨0, by omega, rfl, Below.refl _ _⟩
  case round =>
    obtain ⟨k, hk, rfl, hbel⟩ := hrel
    by_cases hlt : k < n
    · rcases H0.out.cells with hcs | ⟨b, off, rfl, hbB, hcell⟩
      · omega
      rcases H1.out.cells with hcs | ⟨b', off', rfl, hbB', hcell'⟩
      · omega
      obtain ⟨ai, ci, e1, i1⟩ := H0.out.row k hlt
      obtain ⟨aj, cj, e2, i2⟩ := H1.out.row k hlt
      have d1 := (hbel.cell (p := ⟨b, off + k, none⟩) hbB).trans ((hcell k hlt).trans e1)
      have d2 := (hbel.cell (p := ⟨b', off' + k, none⟩) hbB').trans ((hcell' k hlt).trans e2)
      have j1 := i1.below hbel (Nat.le_refl _)
      have j2 := i2.below hbel (Nat.le_refl _)
      have hlr := HL.out k
      obtain ⟨xs, hxs⟩ : ∃ xs, xs = R k := ⟨_, rfl⟩
      rw [← hxs] at d1 d2 j1 j2 hlr
      have C0 := sameInts_any ai aj ci cj xs xs wr.drew j1.drewI j2.drewI (by omega) (by omega)
      rw [show decide (xs = xs) = true by simp] at C0
      have C1 := Lib.hid C0
      have hkn : (k : Int) < n := by omega
      have zb : b < wr.heap.size := Nat.lt_of_lt_of_le hbB hbel.size
      have zb' : b' < wr.heap.size := Nat.lt_of_lt_of_le hbB' hbel.size
      clear hcell hcell' e1 e2 i1 i2 hxs C0
      go_wp2_with fail
      go_region_held3 (fun w' => w'.cell? ⟨b, off + k, none⟩ = some (.slice ai xs.length ci) ∧ w'.cell? ⟨b', off' + k, none⟩ = some (.slice aj xs.length cj)) (exact ⟨by assumption, by assumption⟩) (first
        | (go_at_call 39; refine C1.out.mono ?_; rintro e w2 ⟨rfl, b2⟩; have d3 := (b2.cell (p := ⟨b, off + k, none⟩) zb).trans d1; have d4 := (b2.cell (p := ⟨b', off' + k, none⟩) zb').trans d2))
      go_wp2_with fail
      go_roundw
      case rel => exact ⟨k + 1, by omega, by go_num, nx hbel (undrewB b2)⟩
      case measure => simp [intOf]; omega
    · obtain rfl : k = n := by omega
      go_wp2_with fail
      go_ret
      exact ⟨rfl, hbel⟩
end Go.Proofs.Ytokpgbpdmfibjaa
