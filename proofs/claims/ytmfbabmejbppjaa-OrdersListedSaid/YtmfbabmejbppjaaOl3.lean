/-
  Layer 18: the walk of frankinglaw18.OrdersMean (printed by tools/genol3.py).
-/
import Derived.Test.YtmfbabmejbppjaaOl2
set_option linter.unusedVariables false
set_option linter.unusedSimpArgs false
namespace Go.Proofs.Ytmfbabmejbppjaa
open Go.RowKit

theorem rises_mean {offs : Int} : ∀ {l : List Int} {last : Int}, risesB offs last l = true → ∀ k, k < l.length → last < nth l k ∧ nth l k < offs ∧ ∀ j, j + 1 = k → nth l j < nth l k
  | [], _, _, k, hk => by simp at hk
  | a :: r, last, h, 0, _ => by
    simp only [risesB, Bool.and_eq_true, decide_eq_true_eq] at h
    exact ⟨h.1.1, h.1.2, fun j hj => by omega⟩
  | a :: r, last, h, k + 1, hk => by
    simp only [risesB, Bool.and_eq_true, decide_eq_true_eq] at h
    have ih := rises_mean (l := r) (last := a) h.2 k (by simpa using hk)
    have e : nth (a :: r) (k + 1) = nth r k := rfl
    rw [e]
    refine ⟨by omega, ih.2.1, fun j hj => ?_⟩
    match j, hj with
    | 0, hj =>
      obtain rfl : k = 0 := by omega
      show a < nth r 0
      exact ih.1
    | j + 1, hj =>
      show nth r j < nth r k
      exact ih.2.2 j (by omega)
theorem resE_zero {n : NamesD} {l : List WishD} (h : resE n l = 0) : checkN n = 0 ∧ ¬ 64 < l.length ∧ namesDiff l = true ∧ l.all (knownB n) = true ∧ (ordersOf n l).all (rightN n) = true := by
  unfold resE at h
  split at h
  · rename_i h1; exact absurd h h1
  · rename_i h1
    split at h
    · cases h
    · rename_i h2
      split at h
      · cases h
      · rename_i h3
        split at h
        · cases h
        · rename_i h4
          split at h
          · cases h
          · rename_i h5
            exact ⟨by simpa using h1, h2, by simpa using h3, by simpa using h4, by simpa using h5⟩
/-- what the law says of one order -/
structure MeanAt (n : NamesD) (x : WishD) (o : OrderD) (f q c : Nat) (hd : Int) (ag : List Int) : Prop where
  eq : o = ⟨f, q, hd, c, x.after, x.by_, x.crowd, x.pay, ag, x.back, x.els⟩
  lf : f < n.offices.length
  lq : q < n.people.length
  lc : c < n.classes.length
  lh : q < n.homes.length
  nf : strAt n.offices f = x.frm
  nq : strAt n.people q = x.to
  nc : strAt n.classes c = x.cls
  nh : nth n.homes q = hd
  len : ag.length = x.against.length
  lag : ∀ k, k < ag.length → 0 ≤ nth ag k ∧ nth ag k < n.offices.length ∧ ∀ j, j + 1 = k → nth ag j < nth ag k
  met : ∀ s ∈ x.against, ∃ k, k < ag.length ∧ strAt n.offices (nth ag k).toNat = s
theorem mean_at {n : NamesD} {x : WishD} (hc : checkN n = 0) (hk : knownB n x = true) (hr : rightN n (orderOf n x) = true) : ∃ f q c hd ag, MeanAt n x (orderOf n x) f q c hd ag := by
  obtain ⟨n0, n1, n2, n3, n4⟩ := checkN_ok hc
  unfold knownB at hk
  simp only [Bool.and_eq_true, decide_eq_true_eq, List.all_eq_true] at hk
  obtain ⟨⟨⟨hka, hk0⟩, hk1⟩, hk2⟩ := hk
  obtain ⟨i0, hi0⟩ : ∃ k : Nat, idxI n.offices x.frm = (k : Int) := ⟨_, (Int.toNat_of_nonneg hk0).symm⟩
  obtain ⟨k1, hi1⟩ : ∃ k : Nat, idxI n.people x.to = (k : Int) := ⟨_, (Int.toNat_of_nonneg hk1).symm⟩
  obtain ⟨i2, hi2⟩ : ∃ k : Nat, idxI n.classes x.cls = (k : Int) := ⟨_, (Int.toNat_of_nonneg hk2).symm⟩
  have hl0 := idxI_lt (l := n.offices) (s := x.frm)
  have hl1 := idxI_lt (l := n.people) (s := x.to)
  have hl2 := idxI_lt (l := n.classes) (s := x.cls)
  have hat : ∀ {l : List Str} {s : Str} {k : Nat}, idxI l s = (k : Int) → strAt l k = s := fun {l s k} h => by
    have h1 := (idxI_get h).1
    have h2 := (List.getElem?_eq_some_iff.1 h1).1
    rw [strAt_get h2]
    exact (List.getElem?_eq_some_iff.1 h1).2
  have hp := sortI_perm (x.against.map (idxI n.offices))
  have hri : risesB n.offices.length (-1) (sortI (x.against.map (idxI n.offices))) = true := by
    unfold rightN rightB at hr
    simp only [Bool.and_eq_true] at hr
    exact hr.2
  refine ⟨i0, k1, i2, nth n.homes k1, sortI (x.against.map (idxI n.offices)), ⟨orderOf_eq hi0 hi1 hi2 rfl, by omega, by omega, by omega, by omega, hat hi0, hat hi1, hat hi2, rfl, by rw [hp.length_eq, List.length_map], fun k hk => ?_, fun s hs => ?_⟩⟩
  · have h := rises_mean hri k hk
    exact ⟨by omega, h.2.1, h.2.2⟩
  · have hm : idxI n.offices s ∈ sortI (x.against.map (idxI n.offices)) := hp.mem_iff.2 (List.mem_map_of_mem hs)
    obtain ⟨k, hk, he⟩ := List.getElem_of_mem hm
    refine ⟨k, hk, ?_⟩
    rw [nth_eq_getElem hk, he]
    have h0 := hka s hs
    exact hat (k := (idxI n.offices s).toNat) (Int.toNat_of_nonneg h0).symm

set_option maxHeartbeats 16000000 in
set_option maxRecDepth 100000 in
theorem ordersMean_any (B : Nat) (w : World) (v : NamesV) (n : NamesD) (vl : Value) (l : List WishD) (hB : B ≤ w.heap.size) (hv : IsNames B w v n) (hl : IsWishes B w vl l) :
    Calls Try.prog 5 #[v.agg, vl] w fun e w' => e = .returned (.bool true) ∧ Below w.heap.size w w' := by
  obtain ⟨vo, vp, vc, vh⟩ := v
  obtain ⟨ao, co, e, ho1, ho2, ho3⟩ := hv.o.form
  simp only at e; subst e
  obtain ⟨ap, cp, e, hp1, hp2, hp3⟩ := hv.p.form
  simp only at e; subst e
  obtain ⟨ac, cc, e, hc1, hc2, hc3⟩ := hv.c.form
  simp only at e; subst e
  obtain ⟨bh, oh, ch, ⟨ah, e, hh1, hh2, hh4⟩, hh3, hh5, hh6⟩ := id hv.h
  simp only at e; subst e
  obtain ⟨aw, cw, e, hw1, hw2, hw3⟩ := hl.form
  subst e
  have HV := Lib.hid hv
  have HL := Lib.hid hl
  obtain ⟨b0, hb0⟩ : ∃ b, w.heap.size = b := ⟨_, rfl⟩
  obtain ⟨W0, hW0⟩ : ∃ W, w.alloc (.cells #[.slice ao n.offices.length co, .slice ap n.people.length cp, .slice ac n.classes.length cc, .slice ah n.homes.length ch] 25) = W := ⟨_, rfl⟩
  have HB0 : Hid (Below w.heap.size w W0) := Lib.hid (by rw [← hW0]; exact box_below' w _)
  have HX0 : Hid (Box W0 b0 #[.slice ao n.offices.length co, .slice ap n.people.length cp, .slice ac n.classes.length cc, .slice ah n.homes.length ch]) := Lib.hid (by rw [← hW0, ← hb0]; exact Box.new _ _ _)
  have HW0 := Lib.hid hW0
  have HBZ := Lib.hid hb0
  clear hv hl hh5 hh6 hh4 hW0
  unfold NamesV.agg
  go_enter Try.func5, Try.ntmps5
  go_upto_region 1 with fail
  rw [HW0.out]
  try rw [hb0]
  clear hb0
  go_wp2_with fail
  refine (sane18_any W0).mono ?_
  rintro e W1 ⟨rfl, hb⟩
  have HB1 : Hid (Below w.heap.size w W1) := Lib.hid (HB0.out.trans (hb.mono HB0.out.size))
  have HX1 := Lib.hid (HX0.out.ext hb)
  clear hb
  have HNK : Hid (∀ W, Below W1.heap.size W1 W → W.cell? ⟨b0, 0, none⟩ = some (.slice ao n.offices.length co) ∧ W.cell? ⟨b0, 1, none⟩ = some (.slice ap n.people.length cp) ∧ W.cell? ⟨b0, 2, none⟩ = some (.slice ac n.classes.length cc) ∧ W.cell? ⟨b0, 3, none⟩ = some (.slice ah n.homes.length ch)) := Lib.hid fun W hW => by
    have hx := (HX1.out.ext hW).2
    exact ⟨hx 0, hx 1, hx 2, hx 3⟩
  have HVK : Hid (∀ W, Below W1.heap.size W1 W → IsNames W.heap.size W ⟨.slice ao n.offices.length co, .slice ap n.people.length cp, .slice ac n.classes.length cc, .slice ah n.homes.length ch⟩ n) := Lib.hid fun W hW => (HV.out.below (HB1.out.trans (hW.mono HB1.out.size)) hB).mono (by have := HB1.out.size; have := hW.size; omega)
  have HLK : Hid (∀ W, Below W1.heap.size W1 W → IsWishes W.heap.size W (.slice aw l.length cw) l) := Lib.hid fun W hW => (IsRecs.below wishK HL.out (HB1.out.trans (hW.mono HB1.out.size)) hB).mono wishK (by have := HB1.out.size; have := hW.size; omega)
  obtain ⟨x0, x1, x2, x3⟩ := HNK.out W1 (Below.refl _ _)
  go_wp2_with fail
  refine (fewnames_any W1.heap.size W1 ⟨_, _, _, _⟩ n (HVK.out W1 (Below.refl _ _))).mono ?_
  rintro e W2 ⟨rfl, hb⟩
  have HB12 : Hid (Below W1.heap.size W1 W2) := Lib.hid hb
  clear hb x0 x1 x2 x3
  cases hfn : fewN n with
  | false =>
    have HFN := Lib.hid hfn
    clear hfn
    go_wp2
    go_ret
    exact ⟨rfl, HB1.out.trans (HB12.out.mono HB1.out.size)⟩
  | true =>
    have HFN := Lib.hid hfn
    clear hfn
    go_wp2_with fail
    refine (few_any W2.heap.size W2 _ l (HLK.out W2 HB12.out)).mono ?_
    rintro e w3 ⟨rfl, hw⟩
    rw [hw]
    clear hw
    cases hfl : fewL l with
    | false =>
      clear hfl
      go_wp2
      go_ret
      exact ⟨rfl, HB1.out.trans (HB12.out.mono HB1.out.size)⟩
    | true =>
      obtain ⟨hl70, hag0⟩ := fewL_of hfl
      have HAG : Hid (∀ k, k < l.length → (wishAt l k).against.length ≤ 1000000) := Lib.hid fun k hk => by have := hag0 k hk; omega
      have HAG40 := Lib.hid hag0
      have HSN : Hid (SmallN n) := Lib.hid (fewN_small HFN.out)
      have HL70 := Lib.hid hl70
      clear hfl hag0 hl70
      obtain ⟨E, hE⟩ : ∃ E, resE n l = E := ⟨_, rfl⟩
      have HE := Lib.hid hE
      obtain ⟨os, hos⟩ : ∃ os, resL n l = os := ⟨_, rfl⟩
      have HOS := Lib.hid hos
      obtain ⟨x0, x1, x2, x3⟩ := HNK.out W2 HB12.out
      have HR1 := Lib.hid (res_law W1 W2 _ n _ l E os HB12.out (HVK.out W2 HB12.out) HSN.out (HLK.out W2 HB12.out) HAG.out hE hos)
      clear hE hos
      go_wp2_with fail
      refine HR1.out.mono ?_
      rintro e w5 ⟨ax, cx, rfl, ho, hb⟩
      have HB5 : Hid (Below W1.heap.size W1 w5) := Lib.hid hb
      have HO5 := Lib.hid ho
      have HBW5 : Hid (Below w.heap.size w w5) := Lib.hid (HB1.out.trans (hb.mono HB1.out.size))
      clear hb ho x0 x1 x2 x3
      by_cases he : E = 0
      rotate_left
      · have h0 : os = [] := by rw [← HOS.out]; exact resL_nil (by rw [HE.out]; exact he)
        subst h0
        have hne : (E != 0) = true := by simpa using he
        clear he
        go_wp2
        go_ret
        exact ⟨rfl, HBW5.out⟩
      subst he
      obtain ⟨hcn, hl64, hnd, hka, hra⟩ := resE_zero HE.out
      have hos2 : os = l.map (orderOf n) := by
        rw [← HOS.out]; unfold resL; rw [if_pos HE.out]; rfl
      have hlen : os.length = l.length := by rw [hos2]; simp
      have hhl := (checkN_ok hcn).2.2.2.1
      have HMA : Hid (∀ i, i < l.length → ∃ f q c hd ag, MeanAt n (wishAt l i) (orderAt os i) f q c hd ag ∧ rightN n (orderAt os i) = true) := Lib.hid fun i hi => by
        have e : orderAt os i = orderOf n (wishAt l i) := by
          rw [orderAt_get (by omega)]
          simp only [hos2, List.getElem_map]
          rw [wishAt_get hi]
        have hm : wishAt l i ∈ l := by rw [wishAt_get hi]; exact List.getElem_mem hi
        have h1 := (List.all_eq_true.1 hka) _ hm
        have h2 := (List.all_eq_true.1 hra) (orderOf n (wishAt l i)) (List.mem_map_of_mem hm)
        obtain ⟨f, q, c, hd, ag, hma⟩ := mean_at hcn h1 h2
        rw [e]
        exact ⟨f, q, c, hd, ag, hma, h2⟩
      obtain ⟨x0, x1, x2, x3⟩ := HNK.out w5 HB5.out
      have HLEN := Lib.hid hlen
      have HHL := Lib.hid hhl
      have hli : (os.length : Int) = (l.length : Int) := by omega
      have hhi : (n.homes.length : Int) = (n.people.length : Int) := by omega
      clear hcn hl64 hnd hka hra hos2 hlen hhl
      go_wp2
      clear x0 x1 x2 x3 hli hhi
      go_loopw [52] (fun iv wr => ∃ i, i ≤ l.length ∧ iv = .int .i64 i ∧ Below w5.heap.size w5 wr) (fun iv _ => l.length - (intOf iv).toNat)
      case atStart => exact ⟨0, by omega, rfl, Below.refl _ _⟩
      case round =>
        obtain ⟨i, hi, rfl, hbr⟩ := hrel
        have HBR := Lib.hid hbr
        have HB1R : Hid (Below W1.heap.size W1 wr) := Lib.hid (HB5.out.trans (hbr.mono HB5.out.size))
        have HBWR : Hid (Below w.heap.size w wr) := Lib.hid (HBW5.out.trans (hbr.mono HBW5.out.size))
        clear hbr
        by_cases hlt : i < l.length
        rotate_left
        · obtain rfl : i = l.length := by omega
          go_wp2
          go_ret
          exact ⟨rfl, HBWR.out⟩
        have hlt2 : i < os.length := by have := HLEN.out; omega
        obtain ⟨f, q, c, hd, AG, hma, hrt⟩ := HMA.out i hlt
        obtain ⟨b, off, va, rfl, bb, hst, hok, g0, g1, g2, g3, g4, g5, g6, g7, g8, g9, g10⟩ := IsWishes.cell (HLK.out wr HB1R.out) hlt
        obtain ⟨b', off', va', rfl, bb', hst', hok', k0, k1, k2, k3, k4, k5, k6, k7, k8, k9, k10⟩ := IsOrders.cell (IsRecs.below orderK HO5.out HBR.out (Nat.le_refl _)) hlt2
        have HRT : Hid (rightB (orderAt os i) n.offices.length n.people.length n.classes.length = true) := Lib.hid hrt
        obtain ⟨X, hX⟩ : ∃ X, wishAt l i = X := ⟨_, rfl⟩
        rw [hX] at hma hst hok g0 g1 g2 g3 g4 g5 g6 g7 g9 g10
        have HMM := Lib.hid hma
        rw [hma.eq] at hst' hok' HRT k0 k1 k2 k3 k4 k5 k6 k7 k9 k10
        simp only at hst' k0 k1 k2 k3 k4 k5 k6 k7 k9 k10
        obtain ⟨aa, ca, rfl, ha1, ha2, ha3⟩ := hst.form
        have hst2 := hst'
        obtain ⟨bv, ov, cg, ⟨ag, rfl, _, _, _⟩, _⟩ := hst2
        have HST := Lib.hid hst
        have HSA := Lib.hid hst'
        have HOK' := Lib.hid hok'
        clear hX hma hst hst' hok hok' hrt
        obtain ⟨W7, hW7⟩ : ∃ W, (wr.alloc (.cells #[strV X.name, strV X.frm, strV X.to, strV X.cls, .int .i64 X.after, .int .i64 X.by_, .int .i64 X.crowd, .int .i64 X.pay, .slice aa X.against.length ca, .bool X.back, .int .i64 X.els] 41)).alloc (.cells #[.int .i64 f, .int .i64 q, .int .i64 hd, .int .i64 c, .int .i64 X.after, .int .i64 X.by_, .int .i64 X.crowd, .int .i64 X.pay, .slice ag AG.length cg, .bool X.back, .int .i64 X.els] 38) = W := ⟨_, rfl⟩
        obtain ⟨z, hz⟩ : ∃ z, wr.heap.size = z := ⟨_, rfl⟩
        have HB7 : Hid (Below wr.heap.size wr W7) := Lib.hid (by rw [← hW7]; exact (box_below' _ _).alloc (by simp) _)
        have HK7 : Hid (Box W7 z #[strV X.name, strV X.frm, strV X.to, strV X.cls, .int .i64 X.after, .int .i64 X.by_, .int .i64 X.crowd, .int .i64 X.pay, .slice aa X.against.length ca, .bool X.back, .int .i64 X.els]) := Lib.hid (by rw [← hW7, ← hz]; exact (Box.new _ _ _).alloc _)
        have HM7 : Hid (Box W7 (z + 1) #[.int .i64 f, .int .i64 q, .int .i64 hd, .int .i64 c, .int .i64 X.after, .int .i64 X.by_, .int .i64 X.crowd, .int .i64 X.pay, .slice ag AG.length cg, .bool X.back, .int .i64 X.els]) := Lib.hid (by
          rw [← hW7, ← hz]
          have h := Box.new (wr.alloc (.cells #[strV X.name, strV X.frm, strV X.to, strV X.cls, .int .i64 X.after, .int .i64 X.by_, .int .i64 X.crowd, .int .i64 X.pay, .slice aa X.against.length ca, .bool X.back, .int .i64 X.els] 41)) #[.int .i64 f, .int .i64 q, .int .i64 hd, .int .i64 c, .int .i64 X.after, .int .i64 X.by_, .int .i64 X.crowd, .int .i64 X.pay, .slice ag AG.length cg, .bool X.back, .int .i64 X.els] 38
          rw [World.size_alloc] at h
          exact h)
        have HB17 : Hid (Below W1.heap.size W1 W7) := Lib.hid (HB1R.out.trans (HB7.out.mono HB1R.out.size))
        have HW7 := Lib.hid hW7
        have HZ := Lib.hid hz
        obtain ⟨bo, oo, rfl, bbo, gf, glf⟩ := IsStrs.cell (HVK.out W7 HB17.out).o HMM.out.lf
        obtain ⟨bp, op, rfl, bbp, gq, glq⟩ := IsStrs.cell (HVK.out W7 HB17.out).p HMM.out.lq
        obtain ⟨bc, oc, rfl, bbc, gc, glc⟩ := IsStrs.cell (HVK.out W7 HB17.out).c HMM.out.lc
        obtain ⟨bq, oq, rfl, bbq, gh, glh⟩ := IsInts.cellK (HVK.out W7 HB17.out).h HMM.out.lh
        rw [HMM.out.nf] at gf
        rw [HMM.out.nq] at gq
        rw [HMM.out.nc] at gc
        rw [HMM.out.nh] at gh
        have HG := Lib.hid (And.intro gf (And.intro gq (And.intro gc gh)))
        clear hW7 hz gf gq gc gh
        have hbb' : b' < wr.heap.size := by have := HBR.out.size; omega
        go_upto_region 14 with fail
        rw [HW7.out]
        try rw [HZ.out]
        clear g0 g1 g2 g3 g4 g5 g6 g7 g8 g9 g10 k0 k1 k2 k3 k4 k5 k6 k7 k8 k9 k10
        have HKF : Hid (∀ W, Below W7.heap.size W7 W → ∀ j, W.cell? ⟨z, j, none⟩ = (#[strV X.name, strV X.frm, strV X.to, strV X.cls, .int .i64 X.after, .int .i64 X.by_, .int .i64 X.crowd, .int .i64 X.pay, .slice aa X.against.length ca, .bool X.back, .int .i64 X.els] : Array Value)[j]?) := Lib.hid fun W hW j => (HK7.out.ext hW).2 j
        have HMF : Hid (∀ W, Below W7.heap.size W7 W → ∀ j, W.cell? ⟨z + 1, j, none⟩ = (#[.int .i64 f, .int .i64 q, .int .i64 hd, .int .i64 c, .int .i64 X.after, .int .i64 X.by_, .int .i64 X.crowd, .int .i64 X.pay, .slice ag AG.length cg, .bool X.back, .int .i64 X.els] : Array Value)[j]?) := Lib.hid fun W hW j => (HM7.out.ext hW).2 j
        obtain ⟨x0, x1, x2, x3⟩ := HNK.out W7 HB17.out
        have m0 := HMF.out W7 (Below.refl _ _) 0
        have m1 := HMF.out W7 (Below.refl _ _) 1
        have m2 := HMF.out W7 (Below.refl _ _) 2
        have m3 := HMF.out W7 (Below.refl _ _) 3
        have m4 := HMF.out W7 (Below.refl _ _) 4
        have m5 := HMF.out W7 (Below.refl _ _) 5
        have m6 := HMF.out W7 (Below.refl _ _) 6
        have m7 := HMF.out W7 (Below.refl _ _) 7
        have m8 := HMF.out W7 (Below.refl _ _) 8
        have m9 := HMF.out W7 (Below.refl _ _) 9
        have m10 := HMF.out W7 (Below.refl _ _) 10
        simp at m0 m1 m2 m3 m4 m5 m6 m7 m8 m9 m10
        have hf0 : (0 : Int) ≤ (f : Int) := by omega
        have hf1 : (f : Int) < (n.offices.length : Int) := by have := HMM.out.lf; omega
        have hq0 : (0 : Int) ≤ (q : Int) := by omega
        have hq1 : (q : Int) < (n.people.length : Int) := by have := HMM.out.lq; omega
        have hq2 : (q : Int) < (n.homes.length : Int) := by have := HMM.out.lh; omega
        have hc0 : (0 : Int) ≤ (c : Int) := by omega
        have hc1' : (c : Int) < (n.classes.length : Int) := by have := HMM.out.lc; omega
        go_wp2_with fail
        refine (right_any W7.heap.size W7 (.slice ag AG.length cg) ⟨f, q, hd, c, X.after, X.by_, X.crowd, X.pay, AG, X.back, X.els⟩ _ _ _ (Nat.le_refl _) ((HSA.out.below HB7.out HBR.out.size).mono (by have := HBR.out.size; have := HB7.out.size; omega)) HOK'.out).mono ?_
        rintro e w8 ⟨rfl, hb⟩
        rw [HRT.out]
        have HB8 : Hid (Below W7.heap.size W7 w8) := Lib.hid hb
        clear hb x0 x1 x2 x3 m0 m1 m2 m3 m4 m5 m6 m7 m8 m9 m10
        obtain ⟨x0, x1, x2, x3⟩ := HNK.out w8 (HB17.out.trans (HB8.out.mono HB17.out.size))
        have m0 := HMF.out w8 HB8.out 0
        have m1 := HMF.out w8 HB8.out 1
        have m2 := HMF.out w8 HB8.out 2
        have m3 := HMF.out w8 HB8.out 3
        have m4 := HMF.out w8 HB8.out 4
        have m5 := HMF.out w8 HB8.out 5
        have m6 := HMF.out w8 HB8.out 6
        have m7 := HMF.out w8 HB8.out 7
        have m8 := HMF.out w8 HB8.out 8
        have m9 := HMF.out w8 HB8.out 9
        have m10 := HMF.out w8 HB8.out 10
        simp at m0 m1 m2 m3 m4 m5 m6 m7 m8 m9 m10
        go_upto_region 16 with fail
        clear x0 x1 x2 x3 m0 m1 m2 m3 m4 m5 m6 m7 m8 m9 m10
        have HLI2 : Hid ((AG.length : Int) = (X.against.length : Int)) := Lib.hid (by have := HMM.out.len; omega)
        have HGF : Hid (∀ W, Below W7.heap.size W7 W → W.cell? ⟨bo, oo + f, none⟩ = some (strV X.frm) ∧ W.cell? ⟨bp, op + q, none⟩ = some (strV X.to) ∧ W.cell? ⟨bc, oc + c, none⟩ = some (strV X.cls) ∧ W.cell? ⟨bq, oq + q, none⟩ = some (.int .i64 hd)) := Lib.hid fun W hW => by
          obtain ⟨gf, gq, gc, gh⟩ := HG.out
          exact ⟨(hW.cell (p := ⟨bo, oo + f, none⟩) bbo).trans gf, (hW.cell (p := ⟨bp, op + q, none⟩) bbp).trans gq, (hW.cell (p := ⟨bc, oc + c, none⟩) bbc).trans gc, (hW.cell (p := ⟨bq, oq + q, none⟩) bbq).trans gh⟩
        obtain ⟨V, hV⟩ : ∃ V : List (Option Value), V = [some (.pointer (some ⟨b0, 0, none⟩)), some (.slice (some ⟨bo, oo, none⟩) n.offices.length co), some (.pointer (some ⟨z + 1, 0, none⟩)), some (.int .i64 f), some (.pointer (some ⟨bo, oo + f, none⟩)), some (strV X.frm), some (.pointer (some ⟨z, 1, none⟩)), some (strV X.frm), some (.bool false), some (.bool false), some (.pointer (some ⟨b0, 1, none⟩)), some (.slice (some ⟨bp, op, none⟩) n.people.length cp), some (.pointer (some ⟨z + 1, 1, none⟩)), some (.int .i64 q), some (.pointer (some ⟨bp, op + q, none⟩)), some (strV X.to), some (.pointer (some ⟨z, 2, none⟩)), some (strV X.to), some (.bool false), some (.bool false), some (.bool false), some (.pointer (some ⟨b0, 2, none⟩)), some (.slice (some ⟨bc, oc, none⟩) n.classes.length cc), some (.pointer (some ⟨z + 1, 3, none⟩)), some (.int .i64 c), some (.pointer (some ⟨bc, oc + c, none⟩)), some (strV X.cls), some (.pointer (some ⟨z, 3, none⟩)), some (strV X.cls), some (.bool false), some (.bool false), some (.bool false), some (.pointer (some ⟨z + 1, 2, none⟩)), some (.int .i64 hd), some (.pointer (some ⟨b0, 3, none⟩)), some (.slice (some ⟨bq, oq, none⟩) n.homes.length ch), some (.pointer (some ⟨z + 1, 1, none⟩)), some (.int .i64 q), some (.pointer (some ⟨bq, oq + q, none⟩)), some (.int .i64 hd), some (.bool false), some (.bool false), some (.bool false), some (.pointer (some ⟨z + 1, 8, none⟩)), some (.slice ag AG.length cg), some (.int .i64 (AG.length : Int)), some (.pointer (some ⟨z, 8, none⟩)), some (.slice aa X.against.length ca), some (.int .i64 (X.against.length : Int)), some (.bool false), some (.bool false)] := ⟨_, rfl⟩
        have HVV := Lib.hid hV
        clear hV
        refine wp_region_V [some 112, some 113, some 114, some 115, some 116, some 117, some 118, some 119, some 120, some 121, some 122, some 123, some 124, some 125, some 126, some 127, some 128, some 129, some 130, some 131, some 132, some 133, some 134, some 135, some 136, some 137, some 138, some 139, some 140, some 141, some 142, some 143, some 144, some 145, some 146, some 147, some 148, some 149, some 150, some 151, some 152, some 153, some 154, some 155, some 156, some 157, some 158, some 159, some 160, some 161, some 162] (fun L w' xs => ValsAt V L xs ∧ (Below w8.heap.size w8 w')) (by kernel_rfl) (by kernel_rfl) (by rfl) (by rfl) (by rfl) ?_ ?_ ?_
        focus
          exact fun xs => ⟨ValsAt.none _ _, (Below.refl _ _).drew⟩
        focus
          refine ⟨?_, ?_, ?_, ?_, ?_, ?_, ?_, ?_, ?_, ?_, ?_, ?_, ?_, ?_, ?_, ?_, ?_, ?_, ?_, ?_, ?_, ?_, ?_, ?_, ?_, ?_, ?_, ?_, ?_, ?_, ?_, ?_, ?_, ?_, ?_, ?_, ?_, ?_, ?_, ?_, ?_, ?_, ?_, ?_, ?_, ?_, ?_, ?_, ?_, ?_, ?_, trivial⟩
          all_goals
            intro L a' w' xs hi hd hf hJ K hK
            obtain ⟨hv, hb⟩ := hJ
            have HF := Lib.hid hf
            have HVA := Lib.hid hv
            have HLI := Lib.hid hi
            clear hf hv hi
          focus
            clear hd
            obtain ⟨ρ, hρ⟩ : ∃ ρ, a'.eval = ρ := ⟨_, rfl⟩
            have hcst : ∀ v, ρ (.const v) = v := fun v => (congrFun hρ (.const v)).symm
            have l2 : ρ (.tmp 2) = .pointer (some ⟨b0, 0, none⟩) := (congrFun hρ (.tmp 2)).symm.trans (HF.out.lo 2 rfl)
            rw [if_pos (by simp [Region.wanted])]
            unfold Oper.wp
            rw [hρ]
            clear hρ
            go_simp
            exact hK.out _ _ ⟨HVA.out.set (i := 0) (by rw [HVV.out]; rfl), hb⟩
          focus
            obtain ⟨d0, _⟩ := hd
            obtain ⟨ρ, hρ⟩ : ∃ ρ, a'.eval = ρ := ⟨_, rfl⟩
            have hcst : ∀ v, ρ (.const v) = v := fun v => (congrFun hρ (.const v)).symm
            have v0 : ρ (.tmp 112) = .pointer (some ⟨b0, 0, none⟩) := (congrFun hρ (.tmp 112)).symm.trans ((HF.out.ev 0 rfl d0).trans (HVA.out 0 _ (by rw [HVV.out]; rfl) d0))
            obtain ⟨x0, x1, x2, x3⟩ := HNK.out _ (HB17.out.trans ((HB8.out.trans (hb.mono HB8.out.size)).mono HB17.out.size))
            rw [if_pos (by simp [Region.wanted])]
            unfold Oper.wp
            rw [hρ]
            clear hρ
            go_simp
            exact hK.out _ _ ⟨HVA.out.set (i := 1) (by rw [HVV.out]; rfl), hb⟩
          focus
            clear hd
            obtain ⟨ρ, hρ⟩ : ∃ ρ, a'.eval = ρ := ⟨_, rfl⟩
            have hcst : ∀ v, ρ (.const v) = v := fun v => (congrFun hρ (.const v)).symm
            have l9 : ρ (.tmp 9) = .pointer (some ⟨z + 1, 0, none⟩) := (congrFun hρ (.tmp 9)).symm.trans (HF.out.lo 9 rfl)
            rw [if_pos (by simp [Region.wanted])]
            unfold Oper.wp
            rw [hρ]
            clear hρ
            go_simp
            exact hK.out _ _ ⟨HVA.out.set (i := 2) (by rw [HVV.out]; rfl), hb⟩
          focus
            obtain ⟨d2, _⟩ := hd
            obtain ⟨ρ, hρ⟩ : ∃ ρ, a'.eval = ρ := ⟨_, rfl⟩
            have hcst : ∀ v, ρ (.const v) = v := fun v => (congrFun hρ (.const v)).symm
            have v2 : ρ (.tmp 114) = .pointer (some ⟨z + 1, 0, none⟩) := (congrFun hρ (.tmp 114)).symm.trans ((HF.out.ev 2 rfl d2).trans (HVA.out 2 _ (by rw [HVV.out]; rfl) d2))
            have m0 := HMF.out _ (HB8.out.trans (hb.mono HB8.out.size)) 0
            simp at m0
            rw [if_pos (by simp [Region.wanted])]
            unfold Oper.wp
            rw [hρ]
            clear hρ
            go_simp
            exact hK.out _ _ ⟨HVA.out.set (i := 3) (by rw [HVV.out]; rfl), hb⟩
          focus
            obtain ⟨d1, d3, _⟩ := hd
            obtain ⟨ρ, hρ⟩ : ∃ ρ, a'.eval = ρ := ⟨_, rfl⟩
            have hcst : ∀ v, ρ (.const v) = v := fun v => (congrFun hρ (.const v)).symm
            have v1 : ρ (.tmp 113) = .slice (some ⟨bo, oo, none⟩) n.offices.length co := (congrFun hρ (.tmp 113)).symm.trans ((HF.out.ev 1 rfl d1).trans (HVA.out 1 _ (by rw [HVV.out]; rfl) d1))
            have v3 : ρ (.tmp 115) = .int .i64 f := (congrFun hρ (.tmp 115)).symm.trans ((HF.out.ev 3 rfl d3).trans (HVA.out 3 _ (by rw [HVV.out]; rfl) d3))
            rw [if_pos (by simp [Region.wanted])]
            unfold Oper.wp
            rw [hρ]
            clear hρ
            go_simp
            exact hK.out _ _ ⟨HVA.out.set (i := 4) (by rw [HVV.out]; rfl), hb⟩
          focus
            obtain ⟨d4, _⟩ := hd
            obtain ⟨ρ, hρ⟩ : ∃ ρ, a'.eval = ρ := ⟨_, rfl⟩
            have hcst : ∀ v, ρ (.const v) = v := fun v => (congrFun hρ (.const v)).symm
            have v4 : ρ (.tmp 116) = .pointer (some ⟨bo, oo + f, none⟩) := (congrFun hρ (.tmp 116)).symm.trans ((HF.out.ev 4 rfl d4).trans (HVA.out 4 _ (by rw [HVV.out]; rfl) d4))
            obtain ⟨gf, gq, gc, gh⟩ := HGF.out _ (HB8.out.trans (hb.mono HB8.out.size))
            rw [if_pos (by simp [Region.wanted])]
            unfold Oper.wp
            rw [hρ]
            clear hρ
            go_simp
            exact hK.out _ _ ⟨HVA.out.set (i := 5) (by rw [HVV.out]; rfl), hb⟩
          focus
            clear hd
            obtain ⟨ρ, hρ⟩ : ∃ ρ, a'.eval = ρ := ⟨_, rfl⟩
            have hcst : ∀ v, ρ (.const v) = v := fun v => (congrFun hρ (.const v)).symm
            have l8 : ρ (.tmp 8) = .pointer (some ⟨z, 0, none⟩) := (congrFun hρ (.tmp 8)).symm.trans (HF.out.lo 8 rfl)
            rw [if_pos (by simp [Region.wanted])]
            unfold Oper.wp
            rw [hρ]
            clear hρ
            go_simp
            exact hK.out _ _ ⟨HVA.out.set (i := 6) (by rw [HVV.out]; rfl), hb⟩
          focus
            obtain ⟨d6, _⟩ := hd
            obtain ⟨ρ, hρ⟩ : ∃ ρ, a'.eval = ρ := ⟨_, rfl⟩
            have hcst : ∀ v, ρ (.const v) = v := fun v => (congrFun hρ (.const v)).symm
            have v6 : ρ (.tmp 118) = .pointer (some ⟨z, 1, none⟩) := (congrFun hρ (.tmp 118)).symm.trans ((HF.out.ev 6 rfl d6).trans (HVA.out 6 _ (by rw [HVV.out]; rfl) d6))
            have k1 := HKF.out _ (HB8.out.trans (hb.mono HB8.out.size)) 1
            simp at k1
            rw [if_pos (by simp [Region.wanted])]
            unfold Oper.wp
            rw [hρ]
            clear hρ
            go_simp
            exact hK.out _ _ ⟨HVA.out.set (i := 7) (by rw [HVV.out]; rfl), hb⟩
          focus
            obtain ⟨d5, d7, _⟩ := hd
            obtain ⟨ρ, hρ⟩ : ∃ ρ, a'.eval = ρ := ⟨_, rfl⟩
            have hcst : ∀ v, ρ (.const v) = v := fun v => (congrFun hρ (.const v)).symm
            have v5 : ρ (.tmp 117) = strV X.frm := (congrFun hρ (.tmp 117)).symm.trans ((HF.out.ev 5 rfl d5).trans (HVA.out 5 _ (by rw [HVV.out]; rfl) d5))
            have v7 : ρ (.tmp 119) = strV X.frm := (congrFun hρ (.tmp 119)).symm.trans ((HF.out.ev 7 rfl d7).trans (HVA.out 7 _ (by rw [HVV.out]; rfl) d7))
            rw [if_pos (by simp [Region.wanted])]
            unfold Oper.wp
            rw [hρ]
            clear hρ
            go_simp
            exact hK.out _ _ ⟨HVA.out.set (i := 8) (by rw [HVV.out]; rfl), hb⟩
          focus
            obtain ⟨d8, _⟩ := hd
            obtain ⟨ρ, hρ⟩ : ∃ ρ, a'.eval = ρ := ⟨_, rfl⟩
            have hcst : ∀ v, ρ (.const v) = v := fun v => (congrFun hρ (.const v)).symm
            have v8 : ρ (.tmp 120) = .bool false := (congrFun hρ (.tmp 120)).symm.trans ((HF.out.ev 8 rfl d8).trans (HVA.out 8 _ (by rw [HVV.out]; rfl) d8))
            rw [if_pos (by simp [Region.wanted])]
            unfold Oper.wp
            rw [hρ]
            clear hρ
            go_simp
            exact hK.out _ _ ⟨HVA.out.set (i := 9) (by rw [HVV.out]; rfl), hb⟩
          focus
            obtain ⟨d9, _⟩ := hd
            obtain ⟨ρ, hρ⟩ : ∃ ρ, a'.eval = ρ := ⟨_, rfl⟩
            have hcst : ∀ v, ρ (.const v) = v := fun v => (congrFun hρ (.const v)).symm
            have l2 : ρ (.tmp 2) = .pointer (some ⟨b0, 0, none⟩) := (congrFun hρ (.tmp 2)).symm.trans (HF.out.lo 2 rfl)
            rw [if_pos (wanted_yes (d := 121) rfl rfl ((HF.out.ev 9 rfl d9).trans (HVA.out 9 _ (by rw [HVV.out]; rfl) d9)))]
            unfold Oper.wp
            rw [hρ]
            clear hρ
            go_simp
            exact hK.out _ _ ⟨HVA.out.set (i := 10) (by rw [HVV.out]; rfl), hb⟩
          focus
            obtain ⟨d10, d9, _⟩ := hd
            obtain ⟨ρ, hρ⟩ : ∃ ρ, a'.eval = ρ := ⟨_, rfl⟩
            have hcst : ∀ v, ρ (.const v) = v := fun v => (congrFun hρ (.const v)).symm
            have v10 : ρ (.tmp 122) = .pointer (some ⟨b0, 1, none⟩) := (congrFun hρ (.tmp 122)).symm.trans ((HF.out.ev 10 rfl d10).trans (HVA.out 10 _ (by rw [HVV.out]; rfl) d10))
            obtain ⟨x0, x1, x2, x3⟩ := HNK.out _ (HB17.out.trans ((HB8.out.trans (hb.mono HB8.out.size)).mono HB17.out.size))
            rw [if_pos (wanted_yes (d := 121) rfl rfl ((HF.out.ev 9 rfl d9).trans (HVA.out 9 _ (by rw [HVV.out]; rfl) d9)))]
            unfold Oper.wp
            rw [hρ]
            clear hρ
            go_simp
            exact hK.out _ _ ⟨HVA.out.set (i := 11) (by rw [HVV.out]; rfl), hb⟩
          focus
            obtain ⟨d9, _⟩ := hd
            obtain ⟨ρ, hρ⟩ : ∃ ρ, a'.eval = ρ := ⟨_, rfl⟩
            have hcst : ∀ v, ρ (.const v) = v := fun v => (congrFun hρ (.const v)).symm
            have l9 : ρ (.tmp 9) = .pointer (some ⟨z + 1, 0, none⟩) := (congrFun hρ (.tmp 9)).symm.trans (HF.out.lo 9 rfl)
            rw [if_pos (wanted_yes (d := 121) rfl rfl ((HF.out.ev 9 rfl d9).trans (HVA.out 9 _ (by rw [HVV.out]; rfl) d9)))]
            unfold Oper.wp
            rw [hρ]
            clear hρ
            go_simp
            exact hK.out _ _ ⟨HVA.out.set (i := 12) (by rw [HVV.out]; rfl), hb⟩
          focus
            obtain ⟨d12, d9, _⟩ := hd
            obtain ⟨ρ, hρ⟩ : ∃ ρ, a'.eval = ρ := ⟨_, rfl⟩
            have hcst : ∀ v, ρ (.const v) = v := fun v => (congrFun hρ (.const v)).symm
            have v12 : ρ (.tmp 124) = .pointer (some ⟨z + 1, 1, none⟩) := (congrFun hρ (.tmp 124)).symm.trans ((HF.out.ev 12 rfl d12).trans (HVA.out 12 _ (by rw [HVV.out]; rfl) d12))
            have m1 := HMF.out _ (HB8.out.trans (hb.mono HB8.out.size)) 1
            simp at m1
            rw [if_pos (wanted_yes (d := 121) rfl rfl ((HF.out.ev 9 rfl d9).trans (HVA.out 9 _ (by rw [HVV.out]; rfl) d9)))]
            unfold Oper.wp
            rw [hρ]
            clear hρ
            go_simp
            exact hK.out _ _ ⟨HVA.out.set (i := 13) (by rw [HVV.out]; rfl), hb⟩
          focus
            obtain ⟨d11, d13, d9, _⟩ := hd
            obtain ⟨ρ, hρ⟩ : ∃ ρ, a'.eval = ρ := ⟨_, rfl⟩
            have hcst : ∀ v, ρ (.const v) = v := fun v => (congrFun hρ (.const v)).symm
            have v11 : ρ (.tmp 123) = .slice (some ⟨bp, op, none⟩) n.people.length cp := (congrFun hρ (.tmp 123)).symm.trans ((HF.out.ev 11 rfl d11).trans (HVA.out 11 _ (by rw [HVV.out]; rfl) d11))
            have v13 : ρ (.tmp 125) = .int .i64 q := (congrFun hρ (.tmp 125)).symm.trans ((HF.out.ev 13 rfl d13).trans (HVA.out 13 _ (by rw [HVV.out]; rfl) d13))
            rw [if_pos (wanted_yes (d := 121) rfl rfl ((HF.out.ev 9 rfl d9).trans (HVA.out 9 _ (by rw [HVV.out]; rfl) d9)))]
            unfold Oper.wp
            rw [hρ]
            clear hρ
            go_simp
            exact hK.out _ _ ⟨HVA.out.set (i := 14) (by rw [HVV.out]; rfl), hb⟩
          focus
            obtain ⟨d14, d9, _⟩ := hd
            obtain ⟨ρ, hρ⟩ : ∃ ρ, a'.eval = ρ := ⟨_, rfl⟩
            have hcst : ∀ v, ρ (.const v) = v := fun v => (congrFun hρ (.const v)).symm
            have v14 : ρ (.tmp 126) = .pointer (some ⟨bp, op + q, none⟩) := (congrFun hρ (.tmp 126)).symm.trans ((HF.out.ev 14 rfl d14).trans (HVA.out 14 _ (by rw [HVV.out]; rfl) d14))
            obtain ⟨gf, gq, gc, gh⟩ := HGF.out _ (HB8.out.trans (hb.mono HB8.out.size))
            rw [if_pos (wanted_yes (d := 121) rfl rfl ((HF.out.ev 9 rfl d9).trans (HVA.out 9 _ (by rw [HVV.out]; rfl) d9)))]
            unfold Oper.wp
            rw [hρ]
            clear hρ
            go_simp
            exact hK.out _ _ ⟨HVA.out.set (i := 15) (by rw [HVV.out]; rfl), hb⟩
          focus
            obtain ⟨d9, _⟩ := hd
            obtain ⟨ρ, hρ⟩ : ∃ ρ, a'.eval = ρ := ⟨_, rfl⟩
            have hcst : ∀ v, ρ (.const v) = v := fun v => (congrFun hρ (.const v)).symm
            have l8 : ρ (.tmp 8) = .pointer (some ⟨z, 0, none⟩) := (congrFun hρ (.tmp 8)).symm.trans (HF.out.lo 8 rfl)
            rw [if_pos (wanted_yes (d := 121) rfl rfl ((HF.out.ev 9 rfl d9).trans (HVA.out 9 _ (by rw [HVV.out]; rfl) d9)))]
            unfold Oper.wp
            rw [hρ]
            clear hρ
            go_simp
            exact hK.out _ _ ⟨HVA.out.set (i := 16) (by rw [HVV.out]; rfl), hb⟩
          focus
            obtain ⟨d16, d9, _⟩ := hd
            obtain ⟨ρ, hρ⟩ : ∃ ρ, a'.eval = ρ := ⟨_, rfl⟩
            have hcst : ∀ v, ρ (.const v) = v := fun v => (congrFun hρ (.const v)).symm
            have v16 : ρ (.tmp 128) = .pointer (some ⟨z, 2, none⟩) := (congrFun hρ (.tmp 128)).symm.trans ((HF.out.ev 16 rfl d16).trans (HVA.out 16 _ (by rw [HVV.out]; rfl) d16))
            have k2 := HKF.out _ (HB8.out.trans (hb.mono HB8.out.size)) 2
            simp at k2
            rw [if_pos (wanted_yes (d := 121) rfl rfl ((HF.out.ev 9 rfl d9).trans (HVA.out 9 _ (by rw [HVV.out]; rfl) d9)))]
            unfold Oper.wp
            rw [hρ]
            clear hρ
            go_simp
            exact hK.out _ _ ⟨HVA.out.set (i := 17) (by rw [HVV.out]; rfl), hb⟩
          focus
            obtain ⟨d15, d17, d9, _⟩ := hd
            obtain ⟨ρ, hρ⟩ : ∃ ρ, a'.eval = ρ := ⟨_, rfl⟩
            have hcst : ∀ v, ρ (.const v) = v := fun v => (congrFun hρ (.const v)).symm
            have v15 : ρ (.tmp 127) = strV X.to := (congrFun hρ (.tmp 127)).symm.trans ((HF.out.ev 15 rfl d15).trans (HVA.out 15 _ (by rw [HVV.out]; rfl) d15))
            have v17 : ρ (.tmp 129) = strV X.to := (congrFun hρ (.tmp 129)).symm.trans ((HF.out.ev 17 rfl d17).trans (HVA.out 17 _ (by rw [HVV.out]; rfl) d17))
            rw [if_pos (wanted_yes (d := 121) rfl rfl ((HF.out.ev 9 rfl d9).trans (HVA.out 9 _ (by rw [HVV.out]; rfl) d9)))]
            unfold Oper.wp
            rw [hρ]
            clear hρ
            go_simp
            exact hK.out _ _ ⟨HVA.out.set (i := 18) (by rw [HVV.out]; rfl), hb⟩
          focus
            obtain ⟨d9, d18, _⟩ := hd
            obtain ⟨ρ, hρ⟩ : ∃ ρ, a'.eval = ρ := ⟨_, rfl⟩
            have hcst : ∀ v, ρ (.const v) = v := fun v => (congrFun hρ (.const v)).symm
            have v9 : ρ (.tmp 121) = .bool false := (congrFun hρ (.tmp 121)).symm.trans ((HF.out.ev 9 rfl d9).trans (HVA.out 9 _ (by rw [HVV.out]; rfl) d9))
            have v18 : ρ (.tmp 130) = .bool false := (congrFun hρ (.tmp 130)).symm.trans ((HF.out.ev 18 rfl d18).trans (HVA.out 18 _ (by rw [HVV.out]; rfl) d18))
            rw [if_pos (by simp [Region.wanted])]
            unfold Oper.wp
            rw [hρ]
            clear hρ
            go_simp
            exact hK.out _ _ ⟨HVA.out.set (i := 19) (by rw [HVV.out]; rfl), hb⟩
          focus
            obtain ⟨d19, d9, _⟩ := hd
            obtain ⟨ρ, hρ⟩ : ∃ ρ, a'.eval = ρ := ⟨_, rfl⟩
            have hcst : ∀ v, ρ (.const v) = v := fun v => (congrFun hρ (.const v)).symm
            have v19 : ρ (.tmp 131) = .bool false := (congrFun hρ (.tmp 131)).symm.trans ((HF.out.ev 19 rfl d19).trans (HVA.out 19 _ (by rw [HVV.out]; rfl) d19))
            rw [if_pos (by simp [Region.wanted])]
            unfold Oper.wp
            rw [hρ]
            clear hρ
            go_simp
            exact hK.out _ _ ⟨HVA.out.set (i := 20) (by rw [HVV.out]; rfl), hb⟩
          focus
            obtain ⟨d20, _⟩ := hd
            obtain ⟨ρ, hρ⟩ : ∃ ρ, a'.eval = ρ := ⟨_, rfl⟩
            have hcst : ∀ v, ρ (.const v) = v := fun v => (congrFun hρ (.const v)).symm
            have l2 : ρ (.tmp 2) = .pointer (some ⟨b0, 0, none⟩) := (congrFun hρ (.tmp 2)).symm.trans (HF.out.lo 2 rfl)
            rw [if_pos (wanted_yes (d := 132) rfl rfl ((HF.out.ev 20 rfl d20).trans (HVA.out 20 _ (by rw [HVV.out]; rfl) d20)))]
            unfold Oper.wp
            rw [hρ]
            clear hρ
            go_simp
            exact hK.out _ _ ⟨HVA.out.set (i := 21) (by rw [HVV.out]; rfl), hb⟩
          focus
            obtain ⟨d21, d20, _⟩ := hd
            obtain ⟨ρ, hρ⟩ : ∃ ρ, a'.eval = ρ := ⟨_, rfl⟩
            have hcst : ∀ v, ρ (.const v) = v := fun v => (congrFun hρ (.const v)).symm
            have v21 : ρ (.tmp 133) = .pointer (some ⟨b0, 2, none⟩) := (congrFun hρ (.tmp 133)).symm.trans ((HF.out.ev 21 rfl d21).trans (HVA.out 21 _ (by rw [HVV.out]; rfl) d21))
            obtain ⟨x0, x1, x2, x3⟩ := HNK.out _ (HB17.out.trans ((HB8.out.trans (hb.mono HB8.out.size)).mono HB17.out.size))
            rw [if_pos (wanted_yes (d := 132) rfl rfl ((HF.out.ev 20 rfl d20).trans (HVA.out 20 _ (by rw [HVV.out]; rfl) d20)))]
            unfold Oper.wp
            rw [hρ]
            clear hρ
            go_simp
            exact hK.out _ _ ⟨HVA.out.set (i := 22) (by rw [HVV.out]; rfl), hb⟩
          focus
            obtain ⟨d20, _⟩ := hd
            obtain ⟨ρ, hρ⟩ : ∃ ρ, a'.eval = ρ := ⟨_, rfl⟩
            have hcst : ∀ v, ρ (.const v) = v := fun v => (congrFun hρ (.const v)).symm
            have l9 : ρ (.tmp 9) = .pointer (some ⟨z + 1, 0, none⟩) := (congrFun hρ (.tmp 9)).symm.trans (HF.out.lo 9 rfl)
            rw [if_pos (wanted_yes (d := 132) rfl rfl ((HF.out.ev 20 rfl d20).trans (HVA.out 20 _ (by rw [HVV.out]; rfl) d20)))]
            unfold Oper.wp
            rw [hρ]
            clear hρ
            go_simp
            exact hK.out _ _ ⟨HVA.out.set (i := 23) (by rw [HVV.out]; rfl), hb⟩
          focus
            obtain ⟨d23, d20, _⟩ := hd
            obtain ⟨ρ, hρ⟩ : ∃ ρ, a'.eval = ρ := ⟨_, rfl⟩
            have hcst : ∀ v, ρ (.const v) = v := fun v => (congrFun hρ (.const v)).symm
            have v23 : ρ (.tmp 135) = .pointer (some ⟨z + 1, 3, none⟩) := (congrFun hρ (.tmp 135)).symm.trans ((HF.out.ev 23 rfl d23).trans (HVA.out 23 _ (by rw [HVV.out]; rfl) d23))
            have m3 := HMF.out _ (HB8.out.trans (hb.mono HB8.out.size)) 3
            simp at m3
            rw [if_pos (wanted_yes (d := 132) rfl rfl ((HF.out.ev 20 rfl d20).trans (HVA.out 20 _ (by rw [HVV.out]; rfl) d20)))]
            unfold Oper.wp
            rw [hρ]
            clear hρ
            go_simp
            exact hK.out _ _ ⟨HVA.out.set (i := 24) (by rw [HVV.out]; rfl), hb⟩
          focus
            obtain ⟨d22, d24, d20, _⟩ := hd
            obtain ⟨ρ, hρ⟩ : ∃ ρ, a'.eval = ρ := ⟨_, rfl⟩
            have hcst : ∀ v, ρ (.const v) = v := fun v => (congrFun hρ (.const v)).symm
            have v22 : ρ (.tmp 134) = .slice (some ⟨bc, oc, none⟩) n.classes.length cc := (congrFun hρ (.tmp 134)).symm.trans ((HF.out.ev 22 rfl d22).trans (HVA.out 22 _ (by rw [HVV.out]; rfl) d22))
            have v24 : ρ (.tmp 136) = .int .i64 c := (congrFun hρ (.tmp 136)).symm.trans ((HF.out.ev 24 rfl d24).trans (HVA.out 24 _ (by rw [HVV.out]; rfl) d24))
            rw [if_pos (wanted_yes (d := 132) rfl rfl ((HF.out.ev 20 rfl d20).trans (HVA.out 20 _ (by rw [HVV.out]; rfl) d20)))]
            unfold Oper.wp
            rw [hρ]
            clear hρ
            go_simp
            exact hK.out _ _ ⟨HVA.out.set (i := 25) (by rw [HVV.out]; rfl), hb⟩
          focus
            obtain ⟨d25, d20, _⟩ := hd
            obtain ⟨ρ, hρ⟩ : ∃ ρ, a'.eval = ρ := ⟨_, rfl⟩
            have hcst : ∀ v, ρ (.const v) = v := fun v => (congrFun hρ (.const v)).symm
            have v25 : ρ (.tmp 137) = .pointer (some ⟨bc, oc + c, none⟩) := (congrFun hρ (.tmp 137)).symm.trans ((HF.out.ev 25 rfl d25).trans (HVA.out 25 _ (by rw [HVV.out]; rfl) d25))
            obtain ⟨gf, gq, gc, gh⟩ := HGF.out _ (HB8.out.trans (hb.mono HB8.out.size))
            rw [if_pos (wanted_yes (d := 132) rfl rfl ((HF.out.ev 20 rfl d20).trans (HVA.out 20 _ (by rw [HVV.out]; rfl) d20)))]
            unfold Oper.wp
            rw [hρ]
            clear hρ
            go_simp
            exact hK.out _ _ ⟨HVA.out.set (i := 26) (by rw [HVV.out]; rfl), hb⟩
          focus
            obtain ⟨d20, _⟩ := hd
            obtain ⟨ρ, hρ⟩ : ∃ ρ, a'.eval = ρ := ⟨_, rfl⟩
            have hcst : ∀ v, ρ (.const v) = v := fun v => (congrFun hρ (.const v)).symm
            have l8 : ρ (.tmp 8) = .pointer (some ⟨z, 0, none⟩) := (congrFun hρ (.tmp 8)).symm.trans (HF.out.lo 8 rfl)
            rw [if_pos (wanted_yes (d := 132) rfl rfl ((HF.out.ev 20 rfl d20).trans (HVA.out 20 _ (by rw [HVV.out]; rfl) d20)))]
            unfold Oper.wp
            rw [hρ]
            clear hρ
            go_simp
            exact hK.out _ _ ⟨HVA.out.set (i := 27) (by rw [HVV.out]; rfl), hb⟩
          focus
            obtain ⟨d27, d20, _⟩ := hd
            obtain ⟨ρ, hρ⟩ : ∃ ρ, a'.eval = ρ := ⟨_, rfl⟩
            have hcst : ∀ v, ρ (.const v) = v := fun v => (congrFun hρ (.const v)).symm
            have v27 : ρ (.tmp 139) = .pointer (some ⟨z, 3, none⟩) := (congrFun hρ (.tmp 139)).symm.trans ((HF.out.ev 27 rfl d27).trans (HVA.out 27 _ (by rw [HVV.out]; rfl) d27))
            have k3 := HKF.out _ (HB8.out.trans (hb.mono HB8.out.size)) 3
            simp at k3
            rw [if_pos (wanted_yes (d := 132) rfl rfl ((HF.out.ev 20 rfl d20).trans (HVA.out 20 _ (by rw [HVV.out]; rfl) d20)))]
            unfold Oper.wp
            rw [hρ]
            clear hρ
            go_simp
            exact hK.out _ _ ⟨HVA.out.set (i := 28) (by rw [HVV.out]; rfl), hb⟩
          focus
            obtain ⟨d26, d28, d20, _⟩ := hd
            obtain ⟨ρ, hρ⟩ : ∃ ρ, a'.eval = ρ := ⟨_, rfl⟩
            have hcst : ∀ v, ρ (.const v) = v := fun v => (congrFun hρ (.const v)).symm
            have v26 : ρ (.tmp 138) = strV X.cls := (congrFun hρ (.tmp 138)).symm.trans ((HF.out.ev 26 rfl d26).trans (HVA.out 26 _ (by rw [HVV.out]; rfl) d26))
            have v28 : ρ (.tmp 140) = strV X.cls := (congrFun hρ (.tmp 140)).symm.trans ((HF.out.ev 28 rfl d28).trans (HVA.out 28 _ (by rw [HVV.out]; rfl) d28))
            rw [if_pos (wanted_yes (d := 132) rfl rfl ((HF.out.ev 20 rfl d20).trans (HVA.out 20 _ (by rw [HVV.out]; rfl) d20)))]
            unfold Oper.wp
            rw [hρ]
            clear hρ
            go_simp
            exact hK.out _ _ ⟨HVA.out.set (i := 29) (by rw [HVV.out]; rfl), hb⟩
          focus
            obtain ⟨d20, d29, _⟩ := hd
            obtain ⟨ρ, hρ⟩ : ∃ ρ, a'.eval = ρ := ⟨_, rfl⟩
            have hcst : ∀ v, ρ (.const v) = v := fun v => (congrFun hρ (.const v)).symm
            have v20 : ρ (.tmp 132) = .bool false := (congrFun hρ (.tmp 132)).symm.trans ((HF.out.ev 20 rfl d20).trans (HVA.out 20 _ (by rw [HVV.out]; rfl) d20))
            have v29 : ρ (.tmp 141) = .bool false := (congrFun hρ (.tmp 141)).symm.trans ((HF.out.ev 29 rfl d29).trans (HVA.out 29 _ (by rw [HVV.out]; rfl) d29))
            rw [if_pos (by simp [Region.wanted])]
            unfold Oper.wp
            rw [hρ]
            clear hρ
            go_simp
            exact hK.out _ _ ⟨HVA.out.set (i := 30) (by rw [HVV.out]; rfl), hb⟩
          focus
            obtain ⟨d30, d20, _⟩ := hd
            obtain ⟨ρ, hρ⟩ : ∃ ρ, a'.eval = ρ := ⟨_, rfl⟩
            have hcst : ∀ v, ρ (.const v) = v := fun v => (congrFun hρ (.const v)).symm
            have v30 : ρ (.tmp 142) = .bool false := (congrFun hρ (.tmp 142)).symm.trans ((HF.out.ev 30 rfl d30).trans (HVA.out 30 _ (by rw [HVV.out]; rfl) d30))
            rw [if_pos (by simp [Region.wanted])]
            unfold Oper.wp
            rw [hρ]
            clear hρ
            go_simp
            exact hK.out _ _ ⟨HVA.out.set (i := 31) (by rw [HVV.out]; rfl), hb⟩
          focus
            obtain ⟨d31, _⟩ := hd
            obtain ⟨ρ, hρ⟩ : ∃ ρ, a'.eval = ρ := ⟨_, rfl⟩
            have hcst : ∀ v, ρ (.const v) = v := fun v => (congrFun hρ (.const v)).symm
            have l9 : ρ (.tmp 9) = .pointer (some ⟨z + 1, 0, none⟩) := (congrFun hρ (.tmp 9)).symm.trans (HF.out.lo 9 rfl)
            rw [if_pos (wanted_yes (d := 143) rfl rfl ((HF.out.ev 31 rfl d31).trans (HVA.out 31 _ (by rw [HVV.out]; rfl) d31)))]
            unfold Oper.wp
            rw [hρ]
            clear hρ
            go_simp
            exact hK.out _ _ ⟨HVA.out.set (i := 32) (by rw [HVV.out]; rfl), hb⟩
          focus
            obtain ⟨d32, d31, _⟩ := hd
            obtain ⟨ρ, hρ⟩ : ∃ ρ, a'.eval = ρ := ⟨_, rfl⟩
            have hcst : ∀ v, ρ (.const v) = v := fun v => (congrFun hρ (.const v)).symm
            have v32 : ρ (.tmp 144) = .pointer (some ⟨z + 1, 2, none⟩) := (congrFun hρ (.tmp 144)).symm.trans ((HF.out.ev 32 rfl d32).trans (HVA.out 32 _ (by rw [HVV.out]; rfl) d32))
            have m2 := HMF.out _ (HB8.out.trans (hb.mono HB8.out.size)) 2
            simp at m2
            rw [if_pos (wanted_yes (d := 143) rfl rfl ((HF.out.ev 31 rfl d31).trans (HVA.out 31 _ (by rw [HVV.out]; rfl) d31)))]
            unfold Oper.wp
            rw [hρ]
            clear hρ
            go_simp
            exact hK.out _ _ ⟨HVA.out.set (i := 33) (by rw [HVV.out]; rfl), hb⟩
          focus
            obtain ⟨d31, _⟩ := hd
            obtain ⟨ρ, hρ⟩ : ∃ ρ, a'.eval = ρ := ⟨_, rfl⟩
            have hcst : ∀ v, ρ (.const v) = v := fun v => (congrFun hρ (.const v)).symm
            have l2 : ρ (.tmp 2) = .pointer (some ⟨b0, 0, none⟩) := (congrFun hρ (.tmp 2)).symm.trans (HF.out.lo 2 rfl)
            rw [if_pos (wanted_yes (d := 143) rfl rfl ((HF.out.ev 31 rfl d31).trans (HVA.out 31 _ (by rw [HVV.out]; rfl) d31)))]
            unfold Oper.wp
            rw [hρ]
            clear hρ
            go_simp
            exact hK.out _ _ ⟨HVA.out.set (i := 34) (by rw [HVV.out]; rfl), hb⟩
          focus
            obtain ⟨d34, d31, _⟩ := hd
            obtain ⟨ρ, hρ⟩ : ∃ ρ, a'.eval = ρ := ⟨_, rfl⟩
            have hcst : ∀ v, ρ (.const v) = v := fun v => (congrFun hρ (.const v)).symm
            have v34 : ρ (.tmp 146) = .pointer (some ⟨b0, 3, none⟩) := (congrFun hρ (.tmp 146)).symm.trans ((HF.out.ev 34 rfl d34).trans (HVA.out 34 _ (by rw [HVV.out]; rfl) d34))
            obtain ⟨x0, x1, x2, x3⟩ := HNK.out _ (HB17.out.trans ((HB8.out.trans (hb.mono HB8.out.size)).mono HB17.out.size))
            rw [if_pos (wanted_yes (d := 143) rfl rfl ((HF.out.ev 31 rfl d31).trans (HVA.out 31 _ (by rw [HVV.out]; rfl) d31)))]
            unfold Oper.wp
            rw [hρ]
            clear hρ
            go_simp
            exact hK.out _ _ ⟨HVA.out.set (i := 35) (by rw [HVV.out]; rfl), hb⟩
          focus
            obtain ⟨d31, _⟩ := hd
            obtain ⟨ρ, hρ⟩ : ∃ ρ, a'.eval = ρ := ⟨_, rfl⟩
            have hcst : ∀ v, ρ (.const v) = v := fun v => (congrFun hρ (.const v)).symm
            have l9 : ρ (.tmp 9) = .pointer (some ⟨z + 1, 0, none⟩) := (congrFun hρ (.tmp 9)).symm.trans (HF.out.lo 9 rfl)
            rw [if_pos (wanted_yes (d := 143) rfl rfl ((HF.out.ev 31 rfl d31).trans (HVA.out 31 _ (by rw [HVV.out]; rfl) d31)))]
            unfold Oper.wp
            rw [hρ]
            clear hρ
            go_simp
            exact hK.out _ _ ⟨HVA.out.set (i := 36) (by rw [HVV.out]; rfl), hb⟩
          focus
            obtain ⟨d36, d31, _⟩ := hd
            obtain ⟨ρ, hρ⟩ : ∃ ρ, a'.eval = ρ := ⟨_, rfl⟩
            have hcst : ∀ v, ρ (.const v) = v := fun v => (congrFun hρ (.const v)).symm
            have v36 : ρ (.tmp 148) = .pointer (some ⟨z + 1, 1, none⟩) := (congrFun hρ (.tmp 148)).symm.trans ((HF.out.ev 36 rfl d36).trans (HVA.out 36 _ (by rw [HVV.out]; rfl) d36))
            have m1 := HMF.out _ (HB8.out.trans (hb.mono HB8.out.size)) 1
            simp at m1
            rw [if_pos (wanted_yes (d := 143) rfl rfl ((HF.out.ev 31 rfl d31).trans (HVA.out 31 _ (by rw [HVV.out]; rfl) d31)))]
            unfold Oper.wp
            rw [hρ]
            clear hρ
            go_simp
            exact hK.out _ _ ⟨HVA.out.set (i := 37) (by rw [HVV.out]; rfl), hb⟩
          focus
            obtain ⟨d35, d37, d31, _⟩ := hd
            obtain ⟨ρ, hρ⟩ : ∃ ρ, a'.eval = ρ := ⟨_, rfl⟩
            have hcst : ∀ v, ρ (.const v) = v := fun v => (congrFun hρ (.const v)).symm
            have v35 : ρ (.tmp 147) = .slice (some ⟨bq, oq, none⟩) n.homes.length ch := (congrFun hρ (.tmp 147)).symm.trans ((HF.out.ev 35 rfl d35).trans (HVA.out 35 _ (by rw [HVV.out]; rfl) d35))
            have v37 : ρ (.tmp 149) = .int .i64 q := (congrFun hρ (.tmp 149)).symm.trans ((HF.out.ev 37 rfl d37).trans (HVA.out 37 _ (by rw [HVV.out]; rfl) d37))
            rw [if_pos (wanted_yes (d := 143) rfl rfl ((HF.out.ev 31 rfl d31).trans (HVA.out 31 _ (by rw [HVV.out]; rfl) d31)))]
            unfold Oper.wp
            rw [hρ]
            clear hρ
            go_simp
            exact hK.out _ _ ⟨HVA.out.set (i := 38) (by rw [HVV.out]; rfl), hb⟩
          focus
            obtain ⟨d38, d31, _⟩ := hd
            obtain ⟨ρ, hρ⟩ : ∃ ρ, a'.eval = ρ := ⟨_, rfl⟩
            have hcst : ∀ v, ρ (.const v) = v := fun v => (congrFun hρ (.const v)).symm
            have v38 : ρ (.tmp 150) = .pointer (some ⟨bq, oq + q, none⟩) := (congrFun hρ (.tmp 150)).symm.trans ((HF.out.ev 38 rfl d38).trans (HVA.out 38 _ (by rw [HVV.out]; rfl) d38))
            obtain ⟨gf, gq, gc, gh⟩ := HGF.out _ (HB8.out.trans (hb.mono HB8.out.size))
            rw [if_pos (wanted_yes (d := 143) rfl rfl ((HF.out.ev 31 rfl d31).trans (HVA.out 31 _ (by rw [HVV.out]; rfl) d31)))]
            unfold Oper.wp
            rw [hρ]
            clear hρ
            go_simp
            exact hK.out _ _ ⟨HVA.out.set (i := 39) (by rw [HVV.out]; rfl), hb⟩
          focus
            obtain ⟨d33, d39, d31, _⟩ := hd
            obtain ⟨ρ, hρ⟩ : ∃ ρ, a'.eval = ρ := ⟨_, rfl⟩
            have hcst : ∀ v, ρ (.const v) = v := fun v => (congrFun hρ (.const v)).symm
            have v33 : ρ (.tmp 145) = .int .i64 hd := (congrFun hρ (.tmp 145)).symm.trans ((HF.out.ev 33 rfl d33).trans (HVA.out 33 _ (by rw [HVV.out]; rfl) d33))
            have v39 : ρ (.tmp 151) = .int .i64 hd := (congrFun hρ (.tmp 151)).symm.trans ((HF.out.ev 39 rfl d39).trans (HVA.out 39 _ (by rw [HVV.out]; rfl) d39))
            rw [if_pos (wanted_yes (d := 143) rfl rfl ((HF.out.ev 31 rfl d31).trans (HVA.out 31 _ (by rw [HVV.out]; rfl) d31)))]
            unfold Oper.wp
            rw [hρ]
            clear hρ
            go_simp
            exact hK.out _ _ ⟨HVA.out.set (i := 40) (by rw [HVV.out]; rfl), hb⟩
          focus
            obtain ⟨d31, d40, _⟩ := hd
            obtain ⟨ρ, hρ⟩ : ∃ ρ, a'.eval = ρ := ⟨_, rfl⟩
            have hcst : ∀ v, ρ (.const v) = v := fun v => (congrFun hρ (.const v)).symm
            have v31 : ρ (.tmp 143) = .bool false := (congrFun hρ (.tmp 143)).symm.trans ((HF.out.ev 31 rfl d31).trans (HVA.out 31 _ (by rw [HVV.out]; rfl) d31))
            have v40 : ρ (.tmp 152) = .bool false := (congrFun hρ (.tmp 152)).symm.trans ((HF.out.ev 40 rfl d40).trans (HVA.out 40 _ (by rw [HVV.out]; rfl) d40))
            rw [if_pos (by simp [Region.wanted])]
            unfold Oper.wp
            rw [hρ]
            clear hρ
            go_simp
            exact hK.out _ _ ⟨HVA.out.set (i := 41) (by rw [HVV.out]; rfl), hb⟩
          focus
            obtain ⟨d41, d31, _⟩ := hd
            obtain ⟨ρ, hρ⟩ : ∃ ρ, a'.eval = ρ := ⟨_, rfl⟩
            have hcst : ∀ v, ρ (.const v) = v := fun v => (congrFun hρ (.const v)).symm
            have v41 : ρ (.tmp 153) = .bool false := (congrFun hρ (.tmp 153)).symm.trans ((HF.out.ev 41 rfl d41).trans (HVA.out 41 _ (by rw [HVV.out]; rfl) d41))
            rw [if_pos (by simp [Region.wanted])]
            unfold Oper.wp
            rw [hρ]
            clear hρ
            go_simp
            exact hK.out _ _ ⟨HVA.out.set (i := 42) (by rw [HVV.out]; rfl), hb⟩
          focus
            obtain ⟨d42, _⟩ := hd
            obtain ⟨ρ, hρ⟩ : ∃ ρ, a'.eval = ρ := ⟨_, rfl⟩
            have hcst : ∀ v, ρ (.const v) = v := fun v => (congrFun hρ (.const v)).symm
            have l9 : ρ (.tmp 9) = .pointer (some ⟨z + 1, 0, none⟩) := (congrFun hρ (.tmp 9)).symm.trans (HF.out.lo 9 rfl)
            rw [if_pos (wanted_yes (d := 154) rfl rfl ((HF.out.ev 42 rfl d42).trans (HVA.out 42 _ (by rw [HVV.out]; rfl) d42)))]
            unfold Oper.wp
            rw [hρ]
            clear hρ
            go_simp
            exact hK.out _ _ ⟨HVA.out.set (i := 43) (by rw [HVV.out]; rfl), hb⟩
          focus
            obtain ⟨d43, d42, _⟩ := hd
            obtain ⟨ρ, hρ⟩ : ∃ ρ, a'.eval = ρ := ⟨_, rfl⟩
            have hcst : ∀ v, ρ (.const v) = v := fun v => (congrFun hρ (.const v)).symm
            have v43 : ρ (.tmp 155) = .pointer (some ⟨z + 1, 8, none⟩) := (congrFun hρ (.tmp 155)).symm.trans ((HF.out.ev 43 rfl d43).trans (HVA.out 43 _ (by rw [HVV.out]; rfl) d43))
            have m8 := HMF.out _ (HB8.out.trans (hb.mono HB8.out.size)) 8
            simp at m8
            rw [if_pos (wanted_yes (d := 154) rfl rfl ((HF.out.ev 42 rfl d42).trans (HVA.out 42 _ (by rw [HVV.out]; rfl) d42)))]
            unfold Oper.wp
            rw [hρ]
            clear hρ
            go_simp
            exact hK.out _ _ ⟨HVA.out.set (i := 44) (by rw [HVV.out]; rfl), hb⟩
          focus
            obtain ⟨d44, d42, _⟩ := hd
            obtain ⟨ρ, hρ⟩ : ∃ ρ, a'.eval = ρ := ⟨_, rfl⟩
            have hcst : ∀ v, ρ (.const v) = v := fun v => (congrFun hρ (.const v)).symm
            have v44 : ρ (.tmp 156) = .slice ag AG.length cg := (congrFun hρ (.tmp 156)).symm.trans ((HF.out.ev 44 rfl d44).trans (HVA.out 44 _ (by rw [HVV.out]; rfl) d44))
            rw [if_pos (wanted_yes (d := 154) rfl rfl ((HF.out.ev 42 rfl d42).trans (HVA.out 42 _ (by rw [HVV.out]; rfl) d42)))]
            unfold Oper.wp
            rw [hρ]
            clear hρ
            go_simp
            exact hK.out _ _ ⟨HVA.out.set (i := 45) (by rw [HVV.out]; rfl), hb⟩
          focus
            obtain ⟨d42, _⟩ := hd
            obtain ⟨ρ, hρ⟩ : ∃ ρ, a'.eval = ρ := ⟨_, rfl⟩
            have hcst : ∀ v, ρ (.const v) = v := fun v => (congrFun hρ (.const v)).symm
            have l8 : ρ (.tmp 8) = .pointer (some ⟨z, 0, none⟩) := (congrFun hρ (.tmp 8)).symm.trans (HF.out.lo 8 rfl)
            rw [if_pos (wanted_yes (d := 154) rfl rfl ((HF.out.ev 42 rfl d42).trans (HVA.out 42 _ (by rw [HVV.out]; rfl) d42)))]
            unfold Oper.wp
            rw [hρ]
            clear hρ
            go_simp
            exact hK.out _ _ ⟨HVA.out.set (i := 46) (by rw [HVV.out]; rfl), hb⟩
          focus
            obtain ⟨d46, d42, _⟩ := hd
            obtain ⟨ρ, hρ⟩ : ∃ ρ, a'.eval = ρ := ⟨_, rfl⟩
            have hcst : ∀ v, ρ (.const v) = v := fun v => (congrFun hρ (.const v)).symm
            have v46 : ρ (.tmp 158) = .pointer (some ⟨z, 8, none⟩) := (congrFun hρ (.tmp 158)).symm.trans ((HF.out.ev 46 rfl d46).trans (HVA.out 46 _ (by rw [HVV.out]; rfl) d46))
            have k8 := HKF.out _ (HB8.out.trans (hb.mono HB8.out.size)) 8
            simp at k8
            rw [if_pos (wanted_yes (d := 154) rfl rfl ((HF.out.ev 42 rfl d42).trans (HVA.out 42 _ (by rw [HVV.out]; rfl) d42)))]
            unfold Oper.wp
            rw [hρ]
            clear hρ
            go_simp
            exact hK.out _ _ ⟨HVA.out.set (i := 47) (by rw [HVV.out]; rfl), hb⟩
          focus
            obtain ⟨d47, d42, _⟩ := hd
            obtain ⟨ρ, hρ⟩ : ∃ ρ, a'.eval = ρ := ⟨_, rfl⟩
            have hcst : ∀ v, ρ (.const v) = v := fun v => (congrFun hρ (.const v)).symm
            have v47 : ρ (.tmp 159) = .slice aa X.against.length ca := (congrFun hρ (.tmp 159)).symm.trans ((HF.out.ev 47 rfl d47).trans (HVA.out 47 _ (by rw [HVV.out]; rfl) d47))
            rw [if_pos (wanted_yes (d := 154) rfl rfl ((HF.out.ev 42 rfl d42).trans (HVA.out 42 _ (by rw [HVV.out]; rfl) d42)))]
            unfold Oper.wp
            rw [hρ]
            clear hρ
            go_simp
            exact hK.out _ _ ⟨HVA.out.set (i := 48) (by rw [HVV.out]; rfl), hb⟩
          focus
            obtain ⟨d45, d48, d42, _⟩ := hd
            obtain ⟨ρ, hρ⟩ : ∃ ρ, a'.eval = ρ := ⟨_, rfl⟩
            have hcst : ∀ v, ρ (.const v) = v := fun v => (congrFun hρ (.const v)).symm
            have v45 : ρ (.tmp 157) = .int .i64 (AG.length : Int) := (congrFun hρ (.tmp 157)).symm.trans ((HF.out.ev 45 rfl d45).trans (HVA.out 45 _ (by rw [HVV.out]; rfl) d45))
            have v48 : ρ (.tmp 160) = .int .i64 (X.against.length : Int) := (congrFun hρ (.tmp 160)).symm.trans ((HF.out.ev 48 rfl d48).trans (HVA.out 48 _ (by rw [HVV.out]; rfl) d48))
            have hd : (((AG.length : Int) != (X.against.length : Int))) = false := by have := HLI2.out; simp; omega
            rw [if_pos (wanted_yes (d := 154) rfl rfl ((HF.out.ev 42 rfl d42).trans (HVA.out 42 _ (by rw [HVV.out]; rfl) d42)))]
            unfold Oper.wp
            rw [hρ]
            clear hρ
            go_simp
            exact hK.out _ _ ⟨HVA.out.set (i := 49) (by rw [HVV.out]; rfl), hb⟩
          focus
            obtain ⟨d42, d49, _⟩ := hd
            obtain ⟨ρ, hρ⟩ : ∃ ρ, a'.eval = ρ := ⟨_, rfl⟩
            have hcst : ∀ v, ρ (.const v) = v := fun v => (congrFun hρ (.const v)).symm
            have v42 : ρ (.tmp 154) = .bool false := (congrFun hρ (.tmp 154)).symm.trans ((HF.out.ev 42 rfl d42).trans (HVA.out 42 _ (by rw [HVV.out]; rfl) d42))
            have v49 : ρ (.tmp 161) = .bool false := (congrFun hρ (.tmp 161)).symm.trans ((HF.out.ev 49 rfl d49).trans (HVA.out 49 _ (by rw [HVV.out]; rfl) d49))
            rw [if_pos (by simp [Region.wanted])]
            unfold Oper.wp
            rw [hρ]
            clear hρ
            go_simp
            exact hK.out _ _ ⟨HVA.out.set (i := 50) (by rw [HVV.out]; rfl), hb⟩
        focus
          intro L w' xs hL hJ
          obtain ⟨hv, hb⟩ := hJ
          have e0 : xs 0 = .pointer (some ⟨b0, 0, none⟩) := hv 0 _ (by rw [HVV.out]; rfl) (hL 0 (by decide))
          have e1 : xs 1 = .slice (some ⟨bo, oo, none⟩) n.offices.length co := hv 1 _ (by rw [HVV.out]; rfl) (hL 1 (by decide))
          have e2 : xs 2 = .pointer (some ⟨z + 1, 0, none⟩) := hv 2 _ (by rw [HVV.out]; rfl) (hL 2 (by decide))
          have e3 : xs 3 = .int .i64 f := hv 3 _ (by rw [HVV.out]; rfl) (hL 3 (by decide))
          have e4 : xs 4 = .pointer (some ⟨bo, oo + f, none⟩) := hv 4 _ (by rw [HVV.out]; rfl) (hL 4 (by decide))
          have e5 : xs 5 = strV X.frm := hv 5 _ (by rw [HVV.out]; rfl) (hL 5 (by decide))
          have e6 : xs 6 = .pointer (some ⟨z, 1, none⟩) := hv 6 _ (by rw [HVV.out]; rfl) (hL 6 (by decide))
          have e7 : xs 7 = strV X.frm := hv 7 _ (by rw [HVV.out]; rfl) (hL 7 (by decide))
          have e8 : xs 8 = .bool false := hv 8 _ (by rw [HVV.out]; rfl) (hL 8 (by decide))
          have e9 : xs 9 = .bool false := hv 9 _ (by rw [HVV.out]; rfl) (hL 9 (by decide))
          have e10 : xs 10 = .pointer (some ⟨b0, 1, none⟩) := hv 10 _ (by rw [HVV.out]; rfl) (hL 10 (by decide))
          have e11 : xs 11 = .slice (some ⟨bp, op, none⟩) n.people.length cp := hv 11 _ (by rw [HVV.out]; rfl) (hL 11 (by decide))
          have e12 : xs 12 = .pointer (some ⟨z + 1, 1, none⟩) := hv 12 _ (by rw [HVV.out]; rfl) (hL 12 (by decide))
          have e13 : xs 13 = .int .i64 q := hv 13 _ (by rw [HVV.out]; rfl) (hL 13 (by decide))
          have e14 : xs 14 = .pointer (some ⟨bp, op + q, none⟩) := hv 14 _ (by rw [HVV.out]; rfl) (hL 14 (by decide))
          have e15 : xs 15 = strV X.to := hv 15 _ (by rw [HVV.out]; rfl) (hL 15 (by decide))
          have e16 : xs 16 = .pointer (some ⟨z, 2, none⟩) := hv 16 _ (by rw [HVV.out]; rfl) (hL 16 (by decide))
          have e17 : xs 17 = strV X.to := hv 17 _ (by rw [HVV.out]; rfl) (hL 17 (by decide))
          have e18 : xs 18 = .bool false := hv 18 _ (by rw [HVV.out]; rfl) (hL 18 (by decide))
          have e19 : xs 19 = .bool false := hv 19 _ (by rw [HVV.out]; rfl) (hL 19 (by decide))
          have e20 : xs 20 = .bool false := hv 20 _ (by rw [HVV.out]; rfl) (hL 20 (by decide))
          have e21 : xs 21 = .pointer (some ⟨b0, 2, none⟩) := hv 21 _ (by rw [HVV.out]; rfl) (hL 21 (by decide))
          have e22 : xs 22 = .slice (some ⟨bc, oc, none⟩) n.classes.length cc := hv 22 _ (by rw [HVV.out]; rfl) (hL 22 (by decide))
          have e23 : xs 23 = .pointer (some ⟨z + 1, 3, none⟩) := hv 23 _ (by rw [HVV.out]; rfl) (hL 23 (by decide))
          have e24 : xs 24 = .int .i64 c := hv 24 _ (by rw [HVV.out]; rfl) (hL 24 (by decide))
          have e25 : xs 25 = .pointer (some ⟨bc, oc + c, none⟩) := hv 25 _ (by rw [HVV.out]; rfl) (hL 25 (by decide))
          have e26 : xs 26 = strV X.cls := hv 26 _ (by rw [HVV.out]; rfl) (hL 26 (by decide))
          have e27 : xs 27 = .pointer (some ⟨z, 3, none⟩) := hv 27 _ (by rw [HVV.out]; rfl) (hL 27 (by decide))
          have e28 : xs 28 = strV X.cls := hv 28 _ (by rw [HVV.out]; rfl) (hL 28 (by decide))
          have e29 : xs 29 = .bool false := hv 29 _ (by rw [HVV.out]; rfl) (hL 29 (by decide))
          have e30 : xs 30 = .bool false := hv 30 _ (by rw [HVV.out]; rfl) (hL 30 (by decide))
          have e31 : xs 31 = .bool false := hv 31 _ (by rw [HVV.out]; rfl) (hL 31 (by decide))
          have e32 : xs 32 = .pointer (some ⟨z + 1, 2, none⟩) := hv 32 _ (by rw [HVV.out]; rfl) (hL 32 (by decide))
          have e33 : xs 33 = .int .i64 hd := hv 33 _ (by rw [HVV.out]; rfl) (hL 33 (by decide))
          have e34 : xs 34 = .pointer (some ⟨b0, 3, none⟩) := hv 34 _ (by rw [HVV.out]; rfl) (hL 34 (by decide))
          have e35 : xs 35 = .slice (some ⟨bq, oq, none⟩) n.homes.length ch := hv 35 _ (by rw [HVV.out]; rfl) (hL 35 (by decide))
          have e36 : xs 36 = .pointer (some ⟨z + 1, 1, none⟩) := hv 36 _ (by rw [HVV.out]; rfl) (hL 36 (by decide))
          have e37 : xs 37 = .int .i64 q := hv 37 _ (by rw [HVV.out]; rfl) (hL 37 (by decide))
          have e38 : xs 38 = .pointer (some ⟨bq, oq + q, none⟩) := hv 38 _ (by rw [HVV.out]; rfl) (hL 38 (by decide))
          have e39 : xs 39 = .int .i64 hd := hv 39 _ (by rw [HVV.out]; rfl) (hL 39 (by decide))
          have e40 : xs 40 = .bool false := hv 40 _ (by rw [HVV.out]; rfl) (hL 40 (by decide))
          have e41 : xs 41 = .bool false := hv 41 _ (by rw [HVV.out]; rfl) (hL 41 (by decide))
          have e42 : xs 42 = .bool false := hv 42 _ (by rw [HVV.out]; rfl) (hL 42 (by decide))
          have e43 : xs 43 = .pointer (some ⟨z + 1, 8, none⟩) := hv 43 _ (by rw [HVV.out]; rfl) (hL 43 (by decide))
          have e44 : xs 44 = .slice ag AG.length cg := hv 44 _ (by rw [HVV.out]; rfl) (hL 44 (by decide))
          have e45 : xs 45 = .int .i64 (AG.length : Int) := hv 45 _ (by rw [HVV.out]; rfl) (hL 45 (by decide))
          have e46 : xs 46 = .pointer (some ⟨z, 8, none⟩) := hv 46 _ (by rw [HVV.out]; rfl) (hL 46 (by decide))
          have e47 : xs 47 = .slice aa X.against.length ca := hv 47 _ (by rw [HVV.out]; rfl) (hL 47 (by decide))
          have e48 : xs 48 = .int .i64 (X.against.length : Int) := hv 48 _ (by rw [HVV.out]; rfl) (hL 48 (by decide))
          have e49 : xs 49 = .bool false := hv 49 _ (by rw [HVV.out]; rfl) (hL 49 (by decide))
          have e50 : xs 50 = .bool false := hv 50 _ (by rw [HVV.out]; rfl) (hL 50 (by decide))
          simp only [putGo, Act.put, List.setIfInBounds_toArray, List.set_cons_zero, List.set_cons_succ, e0, e1, e2, e3, e4, e5, e6, e7, e8, e9, e10, e11, e12, e13, e14, e15, e16, e17, e18, e19, e20, e21, e22, e23, e24, e25, e26, e27, e28, e29, e30, e31, e32, e33, e34, e35, e36, e37, e38, e39, e40, e41, e42, e43, e44, e45, e46, e47, e48, e49, e50]
          clear hv e0 e1 e2 e3 e4 e5 e6 e7 e8 e9 e10 e11 e12 e13 e14 e15 e16 e17 e18 e19 e20 e21 e22 e23 e24 e25 e26 e27 e28 e29 e30 e31 e32 e33 e34 e35 e36 e37 e38 e39 e40 e41 e42 e43 e44 e45 e46 e47 e48 e49 e50
          have HB9 : Hid (Below W7.heap.size W7 w') := Lib.hid (HB8.out.trans (hb.mono HB8.out.size))
          obtain ⟨w9, rfl⟩ : ∃ W, W = w' := ⟨_, rfl⟩
          clear hb hL
          have m0 := HMF.out w9 HB9.out 0
          have k0 := HKF.out w9 HB9.out 0
          have m1 := HMF.out w9 HB9.out 1
          have k1 := HKF.out w9 HB9.out 1
          have m2 := HMF.out w9 HB9.out 2
          have k2 := HKF.out w9 HB9.out 2
          have m3 := HMF.out w9 HB9.out 3
          have k3 := HKF.out w9 HB9.out 3
          have m4 := HMF.out w9 HB9.out 4
          have k4 := HKF.out w9 HB9.out 4
          have m5 := HMF.out w9 HB9.out 5
          have k5 := HKF.out w9 HB9.out 5
          have m6 := HMF.out w9 HB9.out 6
          have k6 := HKF.out w9 HB9.out 6
          have m7 := HMF.out w9 HB9.out 7
          have k7 := HKF.out w9 HB9.out 7
          have m8 := HMF.out w9 HB9.out 8
          have k8 := HKF.out w9 HB9.out 8
          have m9 := HMF.out w9 HB9.out 9
          have k9 := HKF.out w9 HB9.out 9
          have m10 := HMF.out w9 HB9.out 10
          have k10 := HKF.out w9 HB9.out 10
          simp at m0 k0 m1 k1 m2 k2 m3 k3 m4 k4 m5 k5 m6 k6 m7 k7 m8 k8 m9 k9 m10 k10
          have hzb : ∀ W : World, (zeroValue 4).run Try.prog W = .ok (.bool false) W := fun W => by rfl
          have HZB := Lib.hid hzb
          have HMK := Lib.hid (StrMap.made w9)
          have hmm := @run_makeMap Try.prog
          clear hzb
          obtain ⟨W10, hW10⟩ : ∃ W, w9.alloc (.map #[] 0) = W := ⟨_, rfl⟩
          obtain ⟨r, hr⟩ : ∃ r, w9.heap.size = r := ⟨_, rfl⟩
          have HM10 : Hid (StrMap W10 r []) := Lib.hid (by rw [← hW10, ← hr]; exact HMK.out)
          have HB10 : Hid (Below w9.heap.size w9 W10) := Lib.hid (by rw [← hW10]; exact box_below' _ _)
          have HW10 := Lib.hid hW10
          have HR10 := Lib.hid hr
          clear hW10 hr
          go_upto_region 21 with fail
          rw [HW10.out]
          try rw [HR10.out]
          clear m0 k0 m1 k1 m2 k2 m3 k3 m4 k4 m5 k5 m6 k6 m7 k7 m8 k8 m9 k9 m10 k10 hmm
          have HBX : Hid (∀ W, Below w9.heap.size w9 W → Below W7.heap.size W7 W) := Lib.hid fun W hW => HB9.out.trans (hW.mono HB9.out.size)
          have HC8 : Hid (∀ W, Below w9.heap.size w9 W → W.cell? ⟨z + 1, 8, none⟩ = some (.slice ag AG.length cg) ∧ W.cell? ⟨z, 8, none⟩ = some (.slice aa X.against.length ca) ∧ W.cell? ⟨b0, 0, none⟩ = some (.slice (some ⟨bo, oo, none⟩) n.offices.length co)) := Lib.hid fun W hW =>
            ⟨HMF.out W (HBX.out W hW) 8, HKF.out W (HBX.out W hW) 8, (HNK.out W (HB17.out.trans ((HBX.out W hW).mono HB17.out.size))).1⟩
          have HA9 : Hid (∀ W, Below w9.heap.size w9 W → IsInts w5.heap.size W (.slice ag AG.length cg) AG) := Lib.hid fun W hW => HSA.out.below (HB7.out.trans ((HBX.out W hW).mono HB7.out.size)) HBR.out.size
          have HO9 : Hid (∀ W, Below w9.heap.size w9 W → IsStrs W.heap.size W (.slice (some ⟨bo, oo, none⟩) n.offices.length co) n.offices) := Lib.hid fun W hW => (HVK.out W (HB17.out.trans ((HBX.out W hW).mono HB17.out.size))).o
          have HX9 : Hid (∀ W, Below w9.heap.size w9 W → IsStrs W.heap.size W (.slice aa X.against.length ca) X.against) := Lib.hid fun W hW => (HST.out.below strK (HB7.out.trans ((HBX.out W hW).mono HB7.out.size)) (Nat.le_refl _)).mono strK (by have := HB7.out.size; have := (HBX.out W hW).size; omega)
          obtain ⟨m8, k8, n8⟩ := HC8.out W10 HB10.out
          go_wp2
          clear m8 k8 n8
          obtain ⟨wA, rfl⟩ : ∃ W, W = wr := ⟨_, rfl⟩
          go_loopw [207] (fun kv wr2 => ∃ k, k ≤ AG.length ∧ kv = .int .i64 k ∧ (∃ S, StrMap wr2 r S ∧ ∀ j, j < k → slook S (bsOf (strAt n.offices (nth AG j).toNat)) = some (.bool true)) ∧ Below w9.heap.size w9 wr2) (fun kv _ => AG.length - (intOf kv).toNat)
          case atStart => exact ⟨0, by omega, rfl, ⟨[], HM10.out, fun j hj => by omega⟩, HB10.out⟩
          case round =>
            obtain ⟨k, hk, rfl, ⟨S, hm, hS⟩, hb2⟩ := hrel
            obtain ⟨wq, rfl⟩ : ∃ W, W = wr := ⟨_, rfl⟩
            have HM := Lib.hid hm
            have HSS := Lib.hid hS
            have HB2 := Lib.hid hb2
            have hsz2 := hb2.size
            clear hm hS hb2
            obtain ⟨m8, k8, n8⟩ := HC8.out wq HB2.out
            by_cases hlt3 : k < AG.length
            · obtain ⟨g1, g2, g3⟩ := HMM.out.lag k hlt3
              have hcell := (IsInts.cellK (HA9.out wq HB2.out) hlt3)
              obtain ⟨bg, og, rfl, bbg, ga, gla⟩ := hcell
              obtain ⟨a, hae⟩ : ∃ a : Nat, nth AG k = (a : Int) := ⟨_, (Int.toNat_of_nonneg g1).symm⟩
              have HAE := Lib.hid hae
              rw [hae] at ga g1 g2 g3
              have hal : a < n.offices.length := by omega
              have hcs := IsStrs.cell (HO9.out wq HB2.out) hal
              obtain ⟨_, _, he, _, gs, gsl⟩ := hcs
              cases he
              have HG3 := Lib.hid g3
              have ha1 : (a : Int) < (n.offices.length : Int) := g2
              have ha0 : (0 : Int) ≤ (a : Int) := g1
              have HSTEP : Hid (∀ w3, StrMap w3 r (sset S (bsOf (strAt n.offices a)) (.bool true)) → ∃ S2, StrMap w3 r S2 ∧ ∀ j, j < k + 1 → slook S2 (bsOf (strAt n.offices (nth AG j).toNat)) = some (.bool true)) := Lib.hid fun w3 h3 => ⟨_, h3, fun j hj => by
                rw [slook_sset]
                by_cases e : bsOf (strAt n.offices (nth AG j).toNat) = bsOf (strAt n.offices a)
                · rw [if_pos e]
                · rw [if_neg e]
                  by_cases hjk : j < k
                  · exact HSS.out j hjk
                  · obtain rfl : j = k := by omega
                    rw [HAE.out] at e
                    exact absurd rfl e⟩
              clear g1 g2 g3 gla hae
              rcases Nat.eq_zero_or_pos k with rfl | hkp
              · simp only [Nat.add_zero] at ga
                go_upto_region 26 with fail
                go_wp2_with (refine wpList_update_strs rfl (.tmp 235) (.tmp 240) (.const (.bool true)) rfl Try.underlying42 Try.underlying9 rfl HM.out rfl rfl ?_; intro w3 hm3 hg3 hz3; have HM3 := Lib.hid hm3; have HG4 := Lib.hid hg3; clear hm3 hg3)
                go_roundw
                case rel => exact ⟨1, by omega, by go_num, HSTEP.out _ HM3.out, HB2.out.grown HG4.out hsz2 (fun q hq => by injection hq with hq; rw [← hq, HR10.out]; exact Nat.le_refl _)⟩
                case measure => simp [intOf]; omega
              · obtain ⟨k', rfl⟩ : ∃ k', k = k' + 1 := ⟨k - 1, by omega⟩
                obtain ⟨_, _, he, _, gp, _⟩ := IsInts.cellK (HA9.out wq HB2.out) (show k' < AG.length by omega)
                cases he
                obtain ⟨u, hu⟩ : ∃ u, nth AG k' = u := ⟨_, rfl⟩
                rw [hu] at gp
                have hua : u < (a : Int) := by have := HG3.out k' rfl; omega
                clear hu
                go_upto_region 26 with fail
                go_wp2_with (refine wpList_update_strs rfl (.tmp 235) (.tmp 240) (.const (.bool true)) rfl Try.underlying42 Try.underlying9 rfl HM.out rfl rfl ?_; intro w3 hm3 hg3 hz3; have HM3 := Lib.hid hm3; have HG4 := Lib.hid hg3; clear hm3 hg3)
                go_roundw
                case rel => exact ⟨k' + 1 + 1, by omega, by go_num, HSTEP.out _ HM3.out, HB2.out.grown HG4.out hsz2 (fun q hq => by injection hq with hq; rw [← hq, HR10.out]; exact Nat.le_refl _)⟩
                case measure => simp [intOf]; omega
            · obtain rfl : k = AG.length := by omega
              have HMET : Hid (∀ s ∈ X.against, slook S (bsOf s) = some (.bool true)) := Lib.hid fun s hs => by
                obtain ⟨j, hj, he⟩ := HMM.out.met s hs
                have := HSS.out j hj
                rwa [he] at this
              have HX2 := Lib.hid (HX9.out wq HB2.out)
              have HBZ2 : Hid (Below w5.heap.size w5 wq) := Lib.hid ((HBR.out.trans (HB7.out.mono HBR.out.size)).trans ((HBX.out wq HB2.out).mono (by have := HBR.out.size; have := HB7.out.size; omega)))
              clear hlt3 hk
              go_wp2
              clear m8 k8 n8
              go_loop [245] (fun kv => ∃ k, k ≤ X.against.length ∧ kv = .int .i64 k) (fun kv => X.against.length - (intOf kv).toNat)
              case atStart => exact ⟨0, by omega, rfl⟩
              case round =>
                obtain ⟨k, hk, rfl⟩ := hrel
                by_cases hlt3 : k < X.against.length
                · obtain ⟨bg, og, rfl, bbg, gs, gsl⟩ := IsStrs.cell HX2.out hlt3
                  have HLK := Lib.hid (HMET.out (strAt X.against k) (by rw [strAt_get hlt3]; exact List.getElem_mem hlt3))
                  go_wp2_with (refine wpList_lookup_strs rfl (.tmp 249) (.tmp 250) false rfl Try.underlying42 Try.underlying9 (HZB.out _) rfl HM.out rfl ?_; rw [if_neg (by decide), HLK.out])
                  go_round
                  case rel => exact ⟨k + 1, by omega, by go_num⟩
                  case measure => simp [intOf]; omega
                · obtain rfl : k = X.against.length := by omega
                  go_wp2
                  go_roundw
                  case rel => exact ⟨i + 1, by omega, by go_num, HBZ2.out⟩
                  case measure => simp [intOf]; omega
end Go.Proofs.Ytmfbabmejbppjaa
