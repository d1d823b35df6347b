/-
Contracts of the reference's l15Search and CountFreimanMaps. Conditions: at most 2000000 orders.
-/
import Derived.Test.YtokpgbpdmfibjaaCml
import Derived.Test.YtokpgbpdmfibjaaFrm
import Derived.Test.YtokpgbpdmfibjaaMem
import Derived.Test.YtokpgbpdmfibjaaApp
import Derived.Deep.RegionWith
namespace Go.Proofs.Ytokpgbpdmfibjaa
open Go.RowKit Go.ChangeShapes
set_option linter.unusedVariables false
set_option linter.unusedSimpArgs false

theorem Ints.takeI {w : World} {a : Option Addr} {c : Nat} {xs : List Int} (h : Ints w a c xs) (n : Nat) : Ints w a c (xs.take n) := by
  obtain ⟨h1, h2, h3, h4, h5⟩ := h
  refine ⟨by rw [List.length_take]; omega, h2, h3, fun y hy => h4 y (List.mem_of_mem_take hy), ?_⟩
  rcases h5 with h5 | ⟨b, off, ha, hb, hc⟩
  · exact .inl (by rw [h5, List.take_nil])
  · refine .inr ⟨b, off, ha, hb, fun i hi => ?_⟩
    rw [List.length_take] at hi
    rw [hc i (by omega), List.getElem_take]
set_option maxRecDepth 20000 in
set_option maxHeartbeats 6400000 in
theorem search_any (w0 : World) (ag : Option Addr) (cg : Nat) (os : List Int) (ah : Option Addr) (ch : Nat) (hs : List Int) (bl ol cl : Nat) (l : List Int) (H0 : Ints w0 ag cg os) (H1 : Ints w0 ah ch hs) (HL : Ints w0 (some ⟨bl, ol, none⟩) cl l) (hg0 : grpB os = true) (hh0 : grpB hs = true) (hl4 : l.length ≤ 4) (hle : ∀ x ∈ l, 0 ≤ x ∧ x < 1000) (hN : gn hs ≤ 8) :
    ∀ (d : Nat) (m : List Int) (am : Option Addr) (cm : Nat) (w : World), m.length + d = l.length → (∀ y ∈ m, 0 ≤ y ∧ y < 1000) → Ints w am cm m → Below w0.heap.size w0 w →
    Calls Try.prog 128 #[.agg #[.slice ag os.length cg], .agg #[.slice ah hs.length ch], .slice (some ⟨bl, ol, none⟩) l.length cl, .slice am m.length cm] w fun e w' => e = .returned (.int .i64 (cmS os hs l (gn hs) d m : Int)) ∧ Below w.heap.size w w' := by
  intro d
  induction d with
  | zero =>
    intro m am cm w hid hm hI hbel
    have hlb : ((m.length : Int) == (l.length : Int)) = true := by simp; omega
    have X0 := KpW.start w ag cg os ah ch hs
    clear hid H0 H1 HL hI
    go_enter Try.func128, Try.ntmps128
    go_wp2_with fail
    go_ret
    exact ⟨rfl, X0.bel⟩
  | succ d ih =>
    intro m am cm w hid hm hI hbel
    have hlb : ((m.length : Int) == (l.length : Int)) = false := by simp; omega
    have X0 := KpW.start w ag cg os ah ch hs
    have IH := Lib.hid ih
    have HID := Lib.hid hid
    have HM := Lib.hid hm
    have HI := Lib.hid hI
    have HLE := Lib.hid hle
    have hml : m.length ≤ 4 := by omega
    have hcl : l.length ≤ cl := HL.1
    have HLL := Lib.hid HL
    obtain ⟨F, hF⟩ : ∃ F : Nat → Nat, F = fun (x : Nat) => if kpB os hs l (m ++ [(x : Int)]) (m.length + 1) = true then cmS os hs l (gn hs) d (m ++ [(x : Int)]) else 0 := ⟨_, rfl⟩
    have hFe : cmS os hs l (gn hs) (d + 1) m = ns F (gn hs) := by rw [hF]; rfl
    have HFX : Hid (∀ x, F x = if kpB os hs l (m ++ [(x : Int)]) (m.length + 1) = true then cmS os hs l (gn hs) d (m ++ [(x : Int)]) else 0) := Lib.hid (fun x => by rw [hF])
    have hd3 : d ≤ 3 := by omega
    have HFB : Hid (∀ x, F x ≤ 512) := Lib.hid (fun x => by
      have h1 := cmS_le (os := os) (hs := hs) (l := l) hN d (m ++ [(x : Int)])
      have h2 : 8 ^ d ≤ 8 ^ 3 := Nat.pow_le_pow_right (by decide) hd3
      rw [hF]
      dsimp only
      split <;> omega)
    have CO := Lib.hid (fun w h => l2Order_any ah ch hs w h hh0)
    rw [← (grp_gn hh0).2.2.2.1] at CO
    have HH := Lib.hid hh0
    have HG := Lib.hid hg0
    obtain ⟨N, hNN⟩ : ∃ n, n = gn hs := ⟨_, rfl⟩
    rw [hFe]
    rw [← hNN] at CO hN IH HFX ⊢
    clear ih hid hm hI hle HL hF hFe hNN hh0 hg0
    go_enter Try.func128, Try.ntmps128
    go_wp2_with fail
    go_loopw [9, 10] (fun vs vx wr => ∃ (x s : Nat), x ≤ N ∧ vx = .int .i64 (x : Int) ∧ vs = .int .i64 (s : Int) ∧ Hid (s = ns F x) ∧ s ≤ x * 512 ∧ KpW w ag cg os ah ch hs wr) (fun _ vx _ => N - (intOf vx).toNat)
    case atStart => exact ⟨0, 0, by omega, rfl, rfl, Lib.hid rfl, by omega, X0⟩
    case round =>
      clear X0
      obtain ⟨x, s, hx, rfl, rfl, HS, hs5, X⟩ := hrel
      have q2 := X.c2
      go_wp2_with fail
      refine (CO.out _ (H1.below (hbel.trans (X.bel.mono hbel.size)) (Nat.le_refl _))).mono ?_; rintro e W ⟨rfl, b⟩
      have X4 := X.next b
      clear X q2 b
      by_cases hxN : x < N
      · have hxi : (x : Int) < N := by omega
        have h1 := (HI.out.below X4.bel (Nat.le_refl _)).alloc (.cells #[] 3)
        have hm := OwnI.made W W.heap.size (Nat.le_refl _)
        have hb1 := (Below.refl W.heap.size W).alloc (Nat.le_refl _) (.cells #[] 3)
        have hl0 : ([] : List Int).length ≤ 2000000 := by simp
        have hl1 : m.length ≤ 2000000 := by omega
        have hsz : W.heap.size ≤ (W.alloc (.cells #[] 3)).heap.size := by simp
        go_wp2_with (at_builtin; refine wpList_appAll rfl (.tmp 23) (.tmp 24) rfl W.heap.size _ _ [] _ _ m rfl rfl hm h1 hl0 hl1 hsz ?_)
        intro a2 c2 w1 o1 hg2
        have hb3 := hg2 _ hb1
        have hwx : (Lit.int .i64 (x : Int)).wf = true := wf_of (by omega) (by omega)
        clear hb1 hg2 hm h1 hl0
        go_wp2_with (at_builtin; refine wpList_app rfl (.tmp 25) (.tmp 27) rfl W.heap.size _ _ _ _ rfl rfl o1 hwx hl1 hb3.size ?_)
        intro a3 c3 w2 o2 hg4
        have hb5 := hg4 _ hb3
        have X5 := X4.next hb5
        have hlen2 : (m ++ [(x : Int)]).length = m.length + 1 := by simp
        have hdl : (m ++ [(x : Int)]).length + d = l.length := by have := HID.out; simp only [List.length_append, List.length_singleton]; omega
        have hdx : ∀ z ∈ m ++ [(x : Int)], 0 ≤ z ∧ z < 1000 := fun z hz => by
          rcases List.mem_append.1 hz with h | h
          · exact HM.out z h
          · simp at h; subst h; omega
        have hFx := HFX.out x
        have hFb := HFB.out x
        have hns : ns F (x + 1) = ns F x + F x := rfl
        rw [← HS.out] at hns
        have hbw := hbel.trans (X5.bel.mono hbel.size)
        have hnl : m.length + 1 ≤ l.length := by have := HID.out; omega
        have hncl : m.length + 1 ≤ cl := by omega
        have hni : ((m.length : Int) + 1) ≤ cl := by omega
        have hni0 : (0 : Int) ≤ (m.length : Int) + 1 := by omega
        have hnw : IntKind.i64.wrap ((m.length : Int) + 1) = (m.length : Int) + 1 := by rw [IntKind.wrap_i64]; omega
        obtain ⟨D, hD⟩ : ∃ D, D = m ++ [(x : Int)] := ⟨_, rfl⟩
        rw [← hD] at o2 hlen2 hdl hdx hFx
        obtain ⟨n1, hn1⟩ : ∃ n, n = m.length + 1 := ⟨_, rfl⟩
        have hn1i : ((m.length : Int) + 1) = (n1 : Int) := by omega
        have KE := Lib.hid (show ∀ w, Ints w ag cg os → Ints w ah ch hs → Ints w (some ⟨bl, ol, none⟩) cl (l.take n1) → Ints w a3 c3 D → Calls Try.prog 130 #[.agg #[.slice ag os.length cg], .agg #[.slice ah hs.length ch], .slice (some ⟨bl, ol, none⟩) n1 cl, .slice a3 (m.length + 1) c3] w fun e w' => e = .returned (.bool (kpB os hs (l.take n1) D n1)) ∧ Below w.heap.size w w' from fun w h0 h1 k0 k1 => by
          rw [← hn1]
          exact keeps_spec ag cg os ah ch hs (some ⟨bl, ol, none⟩) cl (l.take n1) a3 c3 D n1 w h0 h1 k0 k1 HG.out HH.out (by rw [List.length_take]; omega) (by omega) (by omega) (fun y hy => HLE.out y (List.mem_of_mem_take hy)) hdx)
        rw [kpB_take] at KE
        have CI := Lib.hid (IH.out D a3 c3)
        rw [hlen2] at CI
        have hDN : D.length + d = l.length := hdl
        rw [← hn1] at hFx
        obtain ⟨kb, hkb⟩ : ∃ b, b = kpB os hs l D n1 := ⟨_, rfl⟩
        rw [← hkb] at KE hFx
        obtain ⟨V, hV⟩ : ∃ v, v = cmS os hs l N d D := ⟨_, rfl⟩
        rw [← hV] at CI hFx
        obtain ⟨fx, hfx⟩ : ∃ v, v = F x := ⟨_, rfl⟩
        rw [← hfx] at hFx hFb hns
        have HNS := Lib.hid hns
        have HDN : Hid (D.length = n1) := Lib.hid (by omega)
        have HD1 := Lib.hid hn1
        have HDX := Lib.hid hdx
        have HDL : Hid (n1 + d = l.length) := Lib.hid (by omega)
        have q1 := X5.c1
        have q2 := X5.c2
        have zz := X5.lt
        have HO2 := Lib.hid o2.ints
        have HBW := Lib.hid hbw
        have hn1cl : n1 ≤ cl := by omega
        have hn1li : (n1 : Int) ≤ cl := by omega
        clear hg4 hb3 o1 hD hlen2 hwx hl1 hdl hdx hDN hkb hV hfx hns hn1 hb5 o2 hbw X4 hsz
        cases kb with
        | false =>
          have e : fx = 0 := by rw [hFx]; rfl
          subst e
          clear hFx CI
          go_wp2_with fail
          go_region_held3 (fun w' => w'.cell? ⟨w.heap.size, 0, none⟩ = some (.slice ag os.length cg) ∧ w'.cell? ⟨w.heap.size + 1, 0, none⟩ = some (.slice ah hs.length ch)) (exact ⟨by assumption, by assumption⟩) (first
            | (go_at_call 130; refine (KE.out _ (H0.below HBW.out (Nat.le_refl _)).drew (H1.below HBW.out (Nat.le_refl _)).drew ((HLL.out.takeI n1).below HBW.out (Nat.le_refl _)).drew HO2.out.drew).mono ?_; rintro e w5 ⟨rfl, b5⟩; have X6 := X5.drew.next b5; have q5 := X6.c1; have q6 := X6.c2))
          go_wp2_with fail
          go_roundw
          case rel => exact ⟨x + 1, s, by omega, by go_num, rfl, Lib.hid (by rw [HNS.out]; simp), by omega, X6⟩
          case measure => simp [intOf]; omega
        | true =>
          have e : fx = V := by rw [hFx]; simp
          subst e
          clear hFx
          go_wp2_with fail
          go_region_held3 (fun w' => w'.cell? ⟨w.heap.size, 0, none⟩ = some (.slice ag os.length cg) ∧ w'.cell? ⟨w.heap.size + 1, 0, none⟩ = some (.slice ah hs.length ch)) (exact ⟨by assumption, by assumption⟩) (first
            | (go_at_call 130; refine (KE.out _ (H0.below HBW.out (Nat.le_refl _)).drew (H1.below HBW.out (Nat.le_refl _)).drew ((HLL.out.takeI n1).below HBW.out (Nat.le_refl _)).drew HO2.out.drew).mono ?_; rintro e w5 ⟨rfl, b5⟩; have X6 := X5.drew.next b5; have q5 := X6.c1; have q6 := X6.c2))
          have q7 := X6.c1
          have q8 := X6.c2
          have CI2 := Lib.hid (CI.out w5 (by have := HDL.out; omega) HDX.out (HO2.out.drew.below b5 (Nat.le_refl _)) (hbel.trans (X6.bel.mono hbel.size)))
          have hsw : IntKind.i64.wrap ((s : Int) + (fx : Int)) = ((s + fx : Nat) : Int) := by rw [IntKind.wrap_i64]; omega
          clear CI b5
          go_wp2_with fail
          refine CI2.out.mono ?_; rintro e w6 ⟨rfl, b6⟩
          have X7 := X6.next b6
          go_wp2_with fail
          go_roundw
          case rel => exact ⟨x + 1, s + fx, by omega, by go_num, by first | rfl | (congr 1; omega), Lib.hid (by rw [HNS.out]), by omega, X7⟩
          case measure => simp [intOf]; omega
      · obtain rfl : x = N := by omega
        have hxi : ¬ ((x : Int) < x) := by omega
        go_wp2_with fail
        go_ret
        exact ⟨by rw [HS.out]; rfl, X4.bel⟩
end Go.Proofs.Ytokpgbpdmfibjaa
