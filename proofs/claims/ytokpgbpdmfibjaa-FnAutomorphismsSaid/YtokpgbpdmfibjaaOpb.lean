/-
The opening of a law's argument that is a slice of bytes. No condition.
-/
import Derived.Test.YtokpgbpdmfibjaaDrw
import Derived.Test.YtokpgbpdmfibjaaOpen
namespace Go.Proofs.Ytokpgbpdmfibjaa
open Go.ChangeShapes Go.WideShapes Go.ChangeAt Go.RowKit Go.Joins

theorem bts_of {w : World} {x : Addr} {len cap : Nat} {zs : List Int} (hl : len ≤ cap) (hm : cap ≤ maxLen) (hz : zs.length = cap)
    (hcell : ∀ i, i < zs.length → w.cell? (x.add i) = some (.int .u8 (zs.getD i 0))) (hwz : ∀ n ∈ zs, (Lit.int .u8 n).wf = true) : BtS w (some x) cap len := by
  refine ⟨hl, hm, ?_⟩
  by_cases h0 : len = 0
  · exact .inl h0
  · obtain ⟨b, off, spot⟩ := x
    have hc := hcell 0 (by omega)
    have hspot : spot = none := by simpa [Addr.add] using World.cell?_spot hc
    subst hspot
    refine .inr ⟨b, off, rfl, ?_, fun i hi => ?_⟩
    · have := World.block_lt_of_cell? _ _ hc
      simpa [Addr.add] using this
    · have h3 := hcell i (by omega)
      have h4 : (⟨b, off, none⟩ : Addr).add i = ⟨b, off + i, none⟩ := Addr.add_lit _ _ _
      rw [h4] at h3
      have h5 : zs.getD i 0 = zs[i]'(by omega) := by
        rw [List.getD_eq_getElem?_getD, List.getElem?_eq_getElem (by omega)]; rfl
      have h6 := hwz _ (List.getElem_mem (show i < zs.length by omega))
      rw [h5] at h3
      have h7 : 0 ≤ zs[i]'(by omega) ∧ zs[i]'(by omega) ≤ 255 := by
        have h8 : IntKind.u8.min ≤ zs[i]'(by omega) ∧ zs[i]'(by omega) ≤ IntKind.u8.max := by simpa [Lit.wf] using h6
        exact h8
      exact ⟨(zs[i]'(by omega)).toNat, by omega, by rw [h3]; congr 2; omega⟩

set_option maxRecDepth 100000 in
theorem bytes_trod {H : Type} {enc : TypeId × Value → H} {W : World} {v : Value} {fuel : Nat} {x : DataW H × List MemPlace}
    (hf : DataW.trod enc Try.prog W 0 (fun _ => true) true fuel 22 [v] = some x) :
    ∃ a c n, v = .slice a n c ∧ BtS W a c n := by
  rcases open_ints Try.underlying22 Try.underlying5 (by kernel_rfl) hf with ⟨hcs, _⟩ | ⟨x, l, c, zs, hcs, _, hl, hm, hz, _, hcell, hwz⟩
  · simp at hcs
    subst hcs
    exact ⟨none, 0, 0, rfl, by simp, by simp [maxLen], .inl rfl⟩
  · simp at hcs
    subst hcs
    exact ⟨some x, c, l, rfl, bts_of hl hm (by simpa using hz) hcell hwz⟩

set_option maxRecDepth 100000 in
theorem open_bytes {H : Type} {enc : TypeId × Value → H} {W : World} {r : Reach} {b0 : Nat} {v : Value} {d : DataW H} {p : List MemPlace} (hv : Value.okWide Try.prog W r b0 22 v)
    (h : DataW.Trod enc Try.prog W 0 (fun _ => true) true 22 v d p) : ∃ a c n, v = .slice a n c ∧ BtS W a c n := by
  obtain ⟨a, len, cap, rfl⟩ := okWide_slice Try.underlying22 hv
  obtain ⟨fuel, hf⟩ := h
  exact bytes_trod (by simpa [Value.cells] using hf)
end Go.Proofs.Ytokpgbpdmfibjaa
