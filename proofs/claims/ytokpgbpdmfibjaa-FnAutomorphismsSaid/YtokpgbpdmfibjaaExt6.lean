/-
The implementation's search through the images of the generators: the closure's walk. Conditions: orders of a group; at most 1000 lists.
-/
import Derived.Test.YtokpgbpdmfibjaaExt5
namespace Go.Proofs.Ytokpgbpdmfibjaa
open Go.RowKit Go.ChangeShapes
set_option linter.unusedVariables false

theorem take_set_succ {im : List Int} {i : Nat} (h : i < im.length) (x : Int) : (im.set i x).take (i + 1) = im.take i ++ [x] := by
  have h2 : i < (im.set i x).length := by simpa using h
  rw [List.take_succ_eq_append_getElem h2]
  have e : (im.set i x).take i = im.take i := by
    apply List.ext_getElem?
    intro j
    by_cases hj : j < i
    · rw [List.getElem?_take_of_lt hj, List.getElem?_take_of_lt hj, List.getElem?_set_ne (by omega)]
    · rw [List.getElem?_eq_none (by simp; omega), List.getElem?_eq_none (by simp; omega)]
  rw [e]
  simp
theorem take_back {im p : List Int} {i : Nat} {x : Int} (h : im.take (i + 1) = p ++ [x]) (hp : p.length = i) : im.take i = p := by
  have := congrArg (List.take i) h
  rw [List.take_take, show min i (i + 1) = i by omega, ← hp, List.take_left] at this
  rw [← hp]; exact this
theorem range_step {f : Nat → List (List Int)} {x N : Nat} (h : x < N) : (List.range' x (N - x)).flatMap f = f x ++ (List.range' (x + 1) (N - (x + 1))).flatMap f := by
  rw [show N - x = (N - (x + 1)) + 1 by omega, List.range'_succ, List.flatMap_cons]

set_option maxRecDepth 20000 in
set_option maxHeartbeats 6400000 in
theorem ats_cl (os : List Int) (w0 : World) (B bi bg bt bo bm : Nat) (a0 : Option Addr) (c0 : Nat) (hl : os.length ≤ 2000000) (hg0 : grpB os = true) (hI : Ints w0 a0 c0 os) (hB0 : w0.heap.size ≤ B) (hbo : B ≤ bo) :
    ∀ (d i : Nat) (im p : List Int) (F T : List (List Int)) (ao : Option Addr) (co : Nat) (vs : List Value) (w : World), i + d = os.length → im.take i = p → F ++ auGo os (gn os) d p = T → T.length ≤ 1000 → EnvA w B bi bg bt bo bm a0 os.length c0 os.length im ao co F vs → Below B w0 w → (∀ x ∈ p, 0 ≤ x ∧ x < (gn os : Int)) →
    Calls Try.prog 77 #[.int .i64 (i : Int), .pointer (some ⟨bi, 0, none⟩), .pointer (some ⟨bg, 0, none⟩), .pointer (some ⟨bt, 0, none⟩), .pointer (some ⟨bo, 0, none⟩)] w fun e w' =>
      e = .returned (.tuple #[]) ∧ ∃ im' ao' co' vs', EnvA w' B bi bg bt bo bm a0 os.length c0 os.length im' ao' co' T vs' ∧ im'.take i = p ∧ Below B w0 w' := by
  have CO := Lib.hid (fun w h => orderOf_impl a0 c0 os w h hl)
  obtain ⟨g2, g3, g4, g5, g6⟩ := grp_gn hg0
  rw [show ordV os = gord os by simp [ordV, hg0], ← g5] at CO
  have CP := Lib.hid (fun x w h hx => places_any a0 c0 os x w h hl hg0 hx)
  have CM := Lib.hid (fun x n w h hx hn => times_any a0 c0 os x n w h hl hg0 hx hn)
  have CA := Lib.hid (fun x y w h hx hy => add_any a0 c0 os x y w h hg0 hx hy)
  have CU := Lib.hid (fun a1 c1 (f : List Int) w h k hlf => aut_impl a0 c0 os a1 c1 f w h k hl hlf)
  have HPB : Hid (∀ x, ∀ y ∈ plL os x, 0 ≤ y ∧ y < 24) := Lib.hid (fun x => plL_bd g2 x)
  have HPN : Hid (∀ x, (plL os x).length = os.length) := Lib.hid (fun x => plL_len os x)
  have HZL : Hid (∀ im ps k, exZ os im ps k < gn os) := Lib.hid (fun im ps k => exZ_lt g2 k)
  have HML : Hid (∀ x k, gmul os x k < gn os) := Lib.hid (fun x k => gmul_lt g2 x k)
  have hl3 := (grp_parts hg0).1
  obtain ⟨n, hn⟩ : ∃ n, n = gn os := ⟨_, rfl⟩
  have HNN := Lib.hid hn
  rw [← hn] at CO CP CM HZL HML g3 g4
  rw [← hn]
  have hwn : IntKind.i64.wrap (n : Int) = n := wrap_in (by omega) (by omega)
  clear hn g2 g5 g6 hg0
  intro d
  induction d with
  | zero =>
    intro i im p F T ao co vs w hid htk hT hTl env hbel hp
    have himl := env.li
    obtain rfl : i = os.length := by omega
    have htk' : im = p := by rw [← htk, List.take_of_length_le (by omega)]
    subst htk'
    have HT : Hid (F ++ tstA os im = T) := Lib.hid hT
    have HEL : Hid (∀ i, (hi : i < im.length) → im[i] = (elt im i : Int) ∧ elt im i < n) := Lib.hid (fun i hi => by
      have e := (elt_at hi (fun x hx => by have := hp x hx; omega)).1
      have := hp _ (List.getElem_mem hi)
      rw [e] at this
      exact ⟨e, by omega⟩)
    have HST : Hid (∀ k, k < n → (extL os im).take k ++ [(exZ os im (plL os k) os.length : Int)] = (extL os im).take (k + 1)) := Lib.hid (fun k hk => extL_step (by rw [← HNN.out]; exact hk))
    have HLL : Hid ((extL os im).length = n) := Lib.hid (by rw [extL_len, HNN.out])
    have hfl : F.length ≤ 1000 := by rw [← hT] at hTl; simp at hTl; omega
    have HTT : Hid ((autB os (extL os im) = true → T = F ++ [extL os im]) ∧ (autB os (extL os im) = false → T = F)) := Lib.hid ⟨fun h => by rw [← HT.out, tstA, if_pos h], fun h => by rw [← HT.out, tstA, if_neg (by rw [h]; decide), List.append_nil]⟩
    obtain ⟨L, hL⟩ : ∃ L, L = extL os im := ⟨_, rfl⟩
    rw [← hL] at HST HLL HTT
    have HTK := Lib.hid htk
    have HIM := Lib.hid himl
    have qi := cell_of_one env.hi
    have qg := cell_of_one env.hg
    have qo := cell_of_one env.ho
    have zi := lt_of_block env.hi
    have zg := lt_of_block env.hg
    have zo := lt_of_block env.ho
    have zm : bm < w.heap.size := (env.oi.lt _ rfl).2
    have HBM : Hid (∀ j (hj : j < im.length), w.cell? ⟨bm, j, none⟩ = some (.int .i64 im[j])) := Lib.hid (fun j hj => env.oi.cell j hj)
    have hBw : B ≤ w.heap.size := by omega
    have h1 := hI.below hbel hB0
    have HE := Lib.hid env
    have HBL := Lib.hid hbel
    have HM := Lib.hid (OwnI.made w w.heap.size (Nat.le_refl _))
    have HB := Lib.hid ((Below.refl w.heap.size w).alloc (Nat.le_refl _) (.cells #[] 3))
    have h1a := h1.alloc (.cells #[] 3)
    have qg1 : (w.alloc (.cells #[] 3)).cell? ⟨bg, 0, none⟩ = some (.slice a0 os.length c0) := (HB.out.cell (p := ⟨bg, 0, none⟩) zg).trans qg
    clear hL hid htk hT hTl env hbel hp himl HT
    go_enter Try.func77, Try.ntmps77
    go_wp2_with fail
    refine (CO.out _ h1a).mono ?_; rintro e w1 ⟨rfl, b1⟩
    have hb1 := nx HB.out b1
    have hM1 := HM.out.below b1 (Nat.le_refl _)
    clear b1 HB HM qg1 h1a
    go_wp2_with fail
    go_loopw [7, 33] (fun vo vx wr => ∃ (k : Nat) (ls : List Int) (ad : Option Addr) (c : Nat), k ≤ n ∧ vx = .int .i64 (k : Int) ∧ vo = .slice ad ls.length c ∧ Hid (ls = L.take k) ∧ ls.length ≤ 1000000 ∧ OwnI wr w.heap.size ad c ls ∧ Below w.heap.size w wr) (fun _ i _ => n - (intOf i).toNat)
    case atStart => exact ⟨0, [], _, _, by omega, rfl, rfl, Lib.hid (by simp), by simp, hM1, hb1⟩
    case round =>
      clear hM1 hb1
      obtain ⟨k, ls, ad, c, hk, rfl, rfl, HLS, hll, ho, hbel⟩ := hrel
      have q3 := (hbel.cell (p := ⟨bg, 0, none⟩) zg).trans qg
      have h3 := h1.below hbel (Nat.le_refl _)
      by_cases hlt : k < n
      · have CP1 := Lib.hid (fun w h => CP.out k w h hlt)
        have hst := HST.out k hlt
        have hpl := HPN.out k
        have hpb := HPB.out k
        obtain ⟨ps, hps⟩ : ∃ ps, ps = plL os k := ⟨_, rfl⟩
        rw [← hps] at CP1 hst hpl hpb
        have HPS := Lib.hid hst
        have HPB1 := Lib.hid hpb
        have HPL := Lib.hid hpl
        have hpl3 : ps.length ≤ 2000000 := by omega
        have hkn : (k : Int) < n := by omega
        clear hst hpb hps HPB hpl
        go_wp2_with fail
        refine (CP1.out _ h3).mono ?_; rintro e w4 ⟨ap, cp, rfl, op, b4⟩
        have hb4 := nx hbel b4
        have ho4 := ho.below b4 (Nat.le_refl _)
        have h5 := h3.below b4 (Nat.le_refl _)
        have HCP := Lib.hid op.ints.2.2.2.2
        clear b4 q3 hbel ho h3 op
        go_wp2_with fail
        go_loopw [9, 40] (fun vz vi wr => ∃ (i s : Nat), i ≤ ps.length ∧ vi = .int .i64 (i : Int) ∧ vz = .int .i64 (s : Int) ∧ Hid (s = exZ os im ps i) ∧ Below w4.heap.size w4 wr) (fun _ i _ => ps.length - (intOf i).toNat)
        case atStart => exact ⟨0, 0, by omega, rfl, rfl, Lib.hid rfl, Below.refl _ _⟩
        case round =>
          obtain ⟨i, s, hi, rfl, rfl, HS, hbi⟩ := hrel
          have hbw := nx hb4 hbi
          have q6 := (hbw.cell (p := ⟨bg, 0, none⟩) zg).trans qg
          have q7 := (hbw.cell (p := ⟨bi, 0, none⟩) zi).trans qi
          by_cases hip : i < ps.length
          · rcases HCP.out with hcs | ⟨b, off, rfl, hbB, hcell⟩
            · subst hcs; simp at hip
            have hii : i < im.length := by have h1 := HIM.out; have h2 := HPL.out; omega
            have hio : i < os.length := by have h2 := HPL.out; omega
            obtain ⟨e1, e2⟩ := HEL.out i hii
            have e3 := (elt_at hip (fun x hx => by have := HPB1.out x hx; omega)).1
            have e4 := HPB1.out _ (List.getElem_mem hip)
            have d1 := (hbi.cell (p := ⟨b, off + i, none⟩) hbB).trans (hcell i hip)
            have d2 := (hbw.cell (p := ⟨bm, i, none⟩) zm).trans (HBM.out i hii)
            rw [e3] at d1 e4
            rw [e1] at d2
            have hst : gadd os (exZ os im ps i) (gmul os (elt im i) (elt ps i)) = exZ os im ps (i + 1) := rfl
            rw [← HS.out] at hst
            have hs24 := HZL.out im ps i
            rw [← HS.out] at hs24
            obtain ⟨x, hx⟩ : ∃ x, x = elt im i := ⟨_, rfl⟩
            obtain ⟨p, hp⟩ : ∃ p, p = elt ps i := ⟨_, rfl⟩
            have hm24 := HML.out x p
            rw [← hx] at d2 hst e2
            rw [← hp] at d1 hst e4
            obtain ⟨m, hm⟩ : ∃ m, m = gmul os x p := ⟨_, rfl⟩
            have CM1 := Lib.hid (fun w h => CM.out x p w h e2 (by omega))
            rw [← hm] at hst hm24 CM1
            have CA1 := Lib.hid (fun w h => CA.out s m w h (by omega) (by omega))
            obtain ⟨t, ht⟩ : ∃ t, t = gadd os s m := ⟨_, rfl⟩
            rw [← ht] at hst CA1
            have HT := Lib.hid hst
            have h6 := h5.below hbi (Nat.le_refl _)
            have zw : bg < wr.heap.size := by have := hbw.size; omega
            have zi' : bi < wr.heap.size := by have := hbw.size; omega
            have zm' : bm < wr.heap.size := by have := hbw.size; omega
            have hip2 : (i : Int) < ps.length := by omega
            have hio2 : (i : Int) < os.length := by omega
            clear e1 e3 hcell hx hp hm ht hst hbB HEL HZL HML CM CA hbw
            go_wp2_with fail
            go_region_held3 (fun w' => w'.cell? ⟨bg, 0, none⟩ = some (.slice a0 os.length c0) ∧ w'.cell? ⟨bi, 0, none⟩ = some (.slice (some ⟨bm, 0, none⟩) os.length os.length) ∧ w'.cell? ⟨bm, i, none⟩ = some (.int .i64 (x : Int))) (exact ⟨by assumption, by assumption, by assumption⟩) (first
              | (go_at_call 80; refine (CM1.out _ h6.drew).mono ?_; rintro e w6 ⟨rfl, b6⟩; have h7 := h6.below (below_undrew b6) (Nat.le_refl _); have p1 := (b6.cell (p := ⟨bg, 0, none⟩) zw).trans q6; have p2 := (b6.cell (p := ⟨bi, 0, none⟩) zi').trans q7; have p3 := (b6.cell (p := ⟨bm, i, none⟩) zm').trans d2)
              | (go_at_call 79; refine (CA1.out _ h7).mono ?_; rintro e w7 ⟨rfl, b7⟩; have y1 := (b7.cell (p := ⟨bg, 0, none⟩) (Nat.lt_of_lt_of_le zw b6.size)).trans p1; have y2 := (b7.cell (p := ⟨bi, 0, none⟩) (Nat.lt_of_lt_of_le zi' b6.size)).trans p2; have y3 := (b7.cell (p := ⟨bm, i, none⟩) (Nat.lt_of_lt_of_le zm' b6.size)).trans p3))
            go_wp2_with fail
            go_roundw
            case rel => exact ⟨i + 1, t, by omega, by go_num, rfl, HT, nx hbi (nx (below_undrew b6) b7)⟩
            case measure => simp [intOf]; omega
          · obtain rfl : i = ps.length := by omega
            have e := HPS.out
            rw [← HPL.out, ← HS.out, ← HLS.out] at e
            have HE1 := Lib.hid e
            have ho5 := ho4.below hbi (Nat.le_refl _)
            have hsz5 : w.heap.size ≤ wr.heap.size := hbw.size
            have hs24 := HZL.out im ps ps.length
            rw [← HS.out] at hs24
            have hLk2 : (ls ++ [(s : Int)]).length ≤ 1000000 := by rw [e]; have := HLL.out; simp; omega
            clear e HS ho4 hb4 hbi HPS q6 q7
            go_wp2_with (at_builtin; refine wpList_app rfl _ _ rfl w.heap.size _ _ ls (s : Int) rfl rfl ho5 (wf_of (by omega) (by omega)) (by omega) hsz5 ?_)
            intro a' c' w6 o6 hgr
            have hb6 := hgr _ hbw
            clear hgr ho5 hbw hsz5
            go_wp2_with fail
            go_roundw
            case rel => exact ⟨k + 1, ls ++ [(s : Int)], a', c', by omega, by go_num, by simp, HE1, hLk2, o6, hb6⟩
            case measure => simp [intOf]; omega
      · obtain rfl : k = n := by omega
        have e : ls = L := by rw [HLS.out, List.take_of_length_le]; rw [HLL.out]; exact Nat.le_refl _
        subst e
        have CU1 := Lib.hid (fun w h k => CU.out ad c ls w h k (by omega))
        have hoi := ho.ints
        clear HLL HLS HST HEL
        cases hA : autB os ls with
        | false =>
          rw [hA] at CU1
          have e := HTT.out.2 hA
          subst e
          clear hA HTT
          go_wp2_with fail
          refine (CU1.out _ h3 hoi).mono ?_; rintro e w8 ⟨rfl, b8⟩
          have hb8 := nx hbel b8
          go_wp2_with fail
          go_end0
          exact ⟨rfl, im, ao, co, vs, HE.out.below hb8, HTK.out, HBL.out.trans (hb8.mono hBw)⟩
        | true =>
          rw [hA] at CU1
          have e := HTT.out.1 hA
          subst e
          clear hA HTT
          go_wp2_with fail
          refine (CU1.out _ h3 hoi).mono ?_; rintro e w8 ⟨rfl, b8⟩
          have hb8 := nx hbel b8
          have env8 := HE.out.below hb8
          have of8 := (ho.below b8 (Nat.le_refl _))
          have qo8 := cell_of_one env8.ho
          have hfo8 : ∀ y, ad = some y → (Value.slice ao F.length co).ownBlock ≠ some y.block := fun y hy hc => by
            have h1 := (HE.out.oo.outLt _ hc).2
            have h2 := (of8.lt y hy).1
            omega
          have hfr8 : ∀ y, ad = some y → ∀ (i : Nat) v, vs[i]? = some v → v.ownBlock ≠ some y.block := fun y hy i v hv hc => by
            have h1 := (HE.out.oo.rowLt i v _ hv hc).2
            have h2 := (of8.lt y hy).1
            omega
          have zt := lt_of_block HE.out.ht
          have hout : ∀ y, ad = some y → OutE bi bg bt bo bm y.block := fun y hy => by
            have h2 := (of8.lt y hy).1
            exact ⟨by omega, by omega, by omega, by omega, by omega⟩
          have HFO := Lib.hid hfo8
          have HFR := Lib.hid hfr8
          have HOU := Lib.hid hout
          have HE8 := Lib.hid env8
          have oo8 := env8.oo
          have of9 := of8.mono hBw
          have hsz8 : B ≤ w8.heap.size := Nat.le_trans hBw hb8.size
          have hGl : F.length ≤ 1000000 := by omega
          have HR1 : Hid (∀ i, i < F.length → (fun i => (F ++ [ls]).getD i []) i = (fun i => F.getD i []) i) := Lib.hid (fun i hi => getD_app hi)
          have HR2 : Hid ((fun i => (F ++ [ls]).getD i []) F.length = ls) := Lib.hid getD_app'
          have HB8 := Lib.hid (HBL.out.trans (hb8.mono hBw))
          clear b8 hfo8 hfr8 hout of8 env8 ho hbel h3 hoi hb8
          go_wp2_with (at_builtin; refine wpList_appS2 rfl _ _ rfl B _ _ F.length (fun i => F.getD i []) (fun i => (F ++ [ls]).getD i []) vs ad c ls rfl rfl oo8 of9 HFO.out HFR.out HR1.out HR2.out hGl hsz8 ?_)
          intro a' c' w10 o10 hgr hg2 hat
          have hb10 := hgr _ HB8.out
          obtain ⟨ko, env10⟩ := HE8.out.app o10 hg2 hat HOU.out
          have k1 := cell_of_one ko
          have k2 := free_of_one ko
          have hb11 := hb10.setCell (p := ⟨bo, 0, none⟩) hbo (.slice a' (F.length + 1) c')
          clear hgr hg2 hat o10 ko oo8 of9 hb10 qo8
          go_wp2_with fail
          go_end0
          exact ⟨rfl, im, a', c', _, env10, HTK.out, hb11⟩
  | succ d ih =>
    intro i im p F T ao co vs w hid htk hT hTl env hbel hp
    have hlp : p.length = i := by rw [← htk]; have := env.li; simp; omega
    have HLP := Lib.hid hlp
    have HID := Lib.hid hid
    have IH := Lib.hid ih
    have HP := Lib.hid hp
    have HTL := Lib.hid hTl
    have HTK := Lib.hid htk
    have HT : Hid (F ++ (List.range' 0 (n - 0)).flatMap (fun (y : Nat) => auGo os n d (p ++ [(y : Int)])) = T) := Lib.hid (by
      rw [Nat.sub_zero, ← List.range_eq_range']
      exact hT)
    have qi := cell_of_one env.hi
    have qg := cell_of_one env.hg
    have h1 := hI.below hbel hB0
    have hio : i < os.length := by omega
    have hio2 : (i : Int) < os.length := by omega
    clear ih htk hT hTl hp hlp hid
    go_enter Try.func77, Try.ntmps77
    go_wp2_with fail
    refine (CO.out _ h1).mono ?_; rintro e w1 ⟨rfl, b1⟩
    have env1 := env.below b1
    have hszw := lt_of_block env.ho
    have hbel1 := hbel.trans (b1.mono (by omega))
    clear env hbel b1 qi qg h1
    go_wp2_with fail
    go_loopw [18] (fun vx wr => ∃ (x : Nat) (im : List Int) (F : List (List Int)) (ao : Option Addr) (co : Nat) (vs : List Value), x ≤ n ∧ vx = .int .i64 (x : Int) ∧ EnvA wr B bi bg bt bo bm a0 os.length c0 os.length im ao co F vs ∧ Hid (im.take i = p) ∧ Hid (F ++ (List.range' x (n - x)).flatMap (fun (y : Nat) => auGo os n d (p ++ [(y : Int)])) = T) ∧ Below B w0 wr) (fun x _ => n - (intOf x).toNat)
    case atStart => exact ⟨0, im, F, ao, co, vs, by omega, rfl, env1, HTK, HT, hbel1⟩
    case round =>
      clear env1 hbel1 HTK HT
      obtain ⟨x, im, F, ao, co, vs, hx, rfl, env, HTK, HT, hbel⟩ := hrel
      by_cases hlt : x < n
      · have hst := HT.out
        rw [range_step hlt, ← List.append_assoc] at hst
        have hxn : (x : Int) < n := by omega
        have qi := cell_of_one env.hi
        have hii : i < im.length := by rw [env.li]; exact hio
        have g1 := env.oi.cell i hii
        have gf := env.oi.frozen i
        have env2 := env.setI i (x : Int) (wf_of (by omega) (by omega))
        have hbm : B ≤ bm := (env.oi.lt _ rfl).1
        have hbel2 := hbel.setCell (p := ⟨bm, i, none⟩) hbm (.int .i64 (x : Int))
        have q5 := cell_of_one env2.ht
        have htl : (F ++ auGo os n d (p ++ [(x : Int)])).length ≤ 1000 := by
          have := HTL.out
          rw [← hst, List.length_append] at this
          omega
        have htk2 := take_set_succ hii (x : Int)
        rw [HTK.out] at htk2
        have CI := Lib.hid (IH.out (i + 1) (im.set i (x : Int)) (p ++ [(x : Int)]) F (F ++ auGo os n d (p ++ [(x : Int)])) ao co vs _ (by have := HID.out; omega) htk2 rfl htl env2 hbel2 (fun y hy => by
          rcases List.mem_append.1 hy with hy | hy
          · exact HP.out y hy
          · simp at hy; subst hy; omega))
        rw [show ((i + 1 : Nat) : Int) = (i : Int) + 1 by omega] at CI
        have HST := Lib.hid hst
        have hi1 : IntKind.i64.wrap ((i : Int) + 1) = (i : Int) + 1 := wrap_in (by omega) (by omega)
        clear hst htl htk2 env2 hbel2 env hbel HT HTK
        go_wp2_with fail
        refine CI.out.mono ?_; rintro e w5 ⟨rfl, im5, ao5, co5, vs5, env5, htk5, hbel5⟩
        have HTK5 := Lib.hid (take_back htk5 HLP.out)
        clear CI qi g1 gf q5 htk5
        go_wp2_with fail
        go_roundw
        case rel => exact ⟨x + 1, im5, _, ao5, co5, vs5, by omega, by go_num, env5, HTK5, HST, hbel5⟩
        case measure => simp [intOf]; omega
      · obtain rfl : x = n := by omega
        have e := HT.out
        rw [Nat.sub_self, show List.range' x 0 = [] from rfl, List.flatMap_nil, List.append_nil] at e
        subst e
        clear HT IH
        go_wp2_with fail
        (try simp only [Exit.inBlock, Exit.then])
        refine bodyPost_ret (results_none rfl _ _ _) rfl ?_
        exact ⟨rfl, im, ao, co, vs, env, HTK.out, hbel⟩
end Go.Proofs.Ytokpgbpdmfibjaa
