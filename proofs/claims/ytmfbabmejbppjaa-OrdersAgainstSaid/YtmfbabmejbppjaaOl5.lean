/-
  Layer 18: the walk of frankinglaw18.OrdersAgainst (printed by tools/genol5.py).
-/
import Derived.Test.YtmfbabmejbppjaaOl5a
set_option linter.unusedVariables false
set_option linter.unusedSimpArgs false
namespace Go.Proofs.Ytmfbabmejbppjaa
open Go.RowKit

set_option maxHeartbeats 16000000 in
set_option maxRecDepth 100000 in
theorem ordersAgainst_any (B : Nat) (w : World) (v : NamesV) (n : NamesD) (va : Value) (x : WishD) (tu : Nat) (hB : B ≤ w.heap.size) (hv : IsNames B w v n) (hx : IsStrs B w va x.against) (hok : okW x) (htu : tu ≤ 255) :
    Calls Try.prog 7 #[v.agg, wishV va x, .int .u8 (tu : Int)] w fun e w' => e = .returned (.bool true) ∧ Below w.heap.size w w' := by
  obtain ⟨vo, vp, vc, vh⟩ := v
  obtain ⟨ao, co, e, ho1, ho2, ho3⟩ := hv.o.form
  simp only at e; subst e
  obtain ⟨ap, cp, e, hp1, hp2, hp3⟩ := hv.p.form
  simp only at e; subst e
  obtain ⟨ac, cc, e, hc1, hc2, hc3⟩ := hv.c.form
  simp only at e; subst e
  obtain ⟨bh, oh, ch, ⟨ah, e, hh1, hh2, hh4⟩, hh3, hh5, hh6⟩ := id hv.h
  simp only at e; subst e
  obtain ⟨aa, ca, e, ha1, ha2, ha3⟩ := hx.form
  subst e
  have HV := Lib.hid hv
  have HX := Lib.hid hx
  have HOK := Lib.hid hok
  obtain ⟨b0, hb0⟩ : ∃ b, w.heap.size = b := ⟨_, rfl⟩
  obtain ⟨W0, hW0⟩ : ∃ W, (w.alloc (.cells #[.slice ao n.offices.length co, .slice ap n.people.length cp, .slice ac n.classes.length cc, .slice ah n.homes.length ch] 25)).alloc (.cells #[strV x.name, strV x.frm, strV x.to, strV x.cls, .int .i64 x.after, .int .i64 x.by_, .int .i64 x.crowd, .int .i64 x.pay, .slice aa x.against.length ca, .bool x.back, .int .i64 x.els] 41) = W := ⟨_, rfl⟩
  have HB0 : Hid (Below w.heap.size w W0) := Lib.hid (by rw [← hW0]; exact (box_below' w _).alloc (by simp) _)
  have HX0 : Hid (Box W0 b0 #[.slice ao n.offices.length co, .slice ap n.people.length cp, .slice ac n.classes.length cc, .slice ah n.homes.length ch]) := Lib.hid (by rw [← hW0, ← hb0]; exact (Box.new _ _ _).alloc _)
  have HY0 : Hid (Box W0 (b0 + 1) #[strV x.name, strV x.frm, strV x.to, strV x.cls, .int .i64 x.after, .int .i64 x.by_, .int .i64 x.crowd, .int .i64 x.pay, .slice aa x.against.length ca, .bool x.back, .int .i64 x.els]) := Lib.hid (by
    rw [← hW0, ← hb0]
    have h := Box.new (w.alloc (.cells #[.slice ao n.offices.length co, .slice ap n.people.length cp, .slice ac n.classes.length cc, .slice ah n.homes.length ch] 25)) #[strV x.name, strV x.frm, strV x.to, strV x.cls, .int .i64 x.after, .int .i64 x.by_, .int .i64 x.crowd, .int .i64 x.pay, .slice aa x.against.length ca, .bool x.back, .int .i64 x.els] 41
    rw [World.size_alloc] at h
    exact h)
  have HW0 := Lib.hid hW0
  clear hv hx hok hh5 hh6 hh4 hW0
  unfold NamesV.agg wishV wishC
  go_enter Try.func7, Try.ntmps7
  go_upto_region 1 with fail
  rw [HW0.out]
  try rw [hb0]
  clear hb0
  go_wp2_with fail
  refine (sane18_any W0).mono ?_
  rintro e W1 ⟨rfl, hb⟩
  have HB1 : Hid (Below w.heap.size w W1) := Lib.hid (HB0.out.trans (hb.mono HB0.out.size))
  have HX1 := Lib.hid (HX0.out.ext hb)
  have HY1 := Lib.hid (HY0.out.ext hb)
  clear hb
  have HNK : Hid (∀ W, Below W1.heap.size W1 W → W.cell? ⟨b0, 0, none⟩ = some (.slice ao n.offices.length co) ∧ W.cell? ⟨b0, 1, none⟩ = some (.slice ap n.people.length cp) ∧ W.cell? ⟨b0, 2, none⟩ = some (.slice ac n.classes.length cc) ∧ W.cell? ⟨b0, 3, none⟩ = some (.slice ah n.homes.length ch)) := Lib.hid fun W hW => by
    have hx := (HX1.out.ext hW).2
    exact ⟨hx 0, hx 1, hx 2, hx 3⟩
  have HXK : Hid (∀ W, Below W1.heap.size W1 W → W.cell? ⟨b0 + 1, 0, none⟩ = some (strV x.name) ∧ W.cell? ⟨b0 + 1, 1, none⟩ = some (strV x.frm) ∧ W.cell? ⟨b0 + 1, 2, none⟩ = some (strV x.to) ∧ W.cell? ⟨b0 + 1, 3, none⟩ = some (strV x.cls) ∧ W.cell? ⟨b0 + 1, 4, none⟩ = some (.int .i64 x.after) ∧ W.cell? ⟨b0 + 1, 5, none⟩ = some (.int .i64 x.by_) ∧ W.cell? ⟨b0 + 1, 6, none⟩ = some (.int .i64 x.crowd) ∧ W.cell? ⟨b0 + 1, 7, none⟩ = some (.int .i64 x.pay) ∧ W.cell? ⟨b0 + 1, 8, none⟩ = some (.slice aa x.against.length ca) ∧ W.cell? ⟨b0 + 1, 9, none⟩ = some (.bool x.back) ∧ W.cell? ⟨b0 + 1, 10, none⟩ = some (.int .i64 x.els)) := Lib.hid fun W hW => by
    have hx := (HY1.out.ext hW).2
    exact ⟨hx 0, hx 1, hx 2, hx 3, hx 4, hx 5, hx 6, hx 7, hx 8, hx 9, hx 10⟩
  have HVK : Hid (∀ W, Below W1.heap.size W1 W → IsNames W.heap.size W ⟨.slice ao n.offices.length co, .slice ap n.people.length cp, .slice ac n.classes.length cc, .slice ah n.homes.length ch⟩ n) := Lib.hid fun W hW => (HV.out.below (HB1.out.trans (hW.mono HB1.out.size)) hB).mono (by have := HB1.out.size; have := hW.size; omega)
  have HSK : Hid (∀ W, Below W1.heap.size W1 W → IsStrs W.heap.size W (.slice aa x.against.length ca) x.against) := Lib.hid fun W hW => (IsRecs.below strK HX.out (HB1.out.trans (hW.mono HB1.out.size)) hB).mono strK (by have := HB1.out.size; have := hW.size; omega)
  obtain ⟨x0, x1, x2, x3⟩ := HNK.out W1 (Below.refl _ _)
  go_wp2_with fail
  refine (fewnames_any W1.heap.size W1 ⟨_, _, _, _⟩ n (HVK.out W1 (Below.refl _ _))).mono ?_
  rintro e W2 ⟨rfl, hb⟩
  have HB12 : Hid (Below W1.heap.size W1 W2) := Lib.hid hb
  clear hb x0 x1 x2 x3
  cases hfn : fewN n with
  | false =>
    clear hfn
    go_wp2
    go_ret
    exact ⟨rfl, HB1.out.trans (HB12.out.mono HB1.out.size)⟩
  | true =>
    have HSN := Lib.hid (fewN_small hfn)
    clear hfn
    obtain ⟨W3, hW3⟩ : ∃ W, W2.alloc (.cells #[strV x.name, strV x.frm, strV x.to, strV x.cls, .int .i64 x.after, .int .i64 x.by_, .int .i64 x.crowd, .int .i64 x.pay, .slice aa x.against.length ca, .bool x.back, .int .i64 x.els] 41) = W := ⟨_, rfl⟩
    have HB13 : Hid (Below W1.heap.size W1 W3) := Lib.hid (by rw [← hW3]; exact HB12.out.alloc HB12.out.size _)
    have HBW3 : Hid (Below w.heap.size w W3) := Lib.hid (HB1.out.trans (HB13.out.mono HB1.out.size))
    have HWI : Hid (IsWishes (W2.heap.size + 1) W3 (.slice (some ⟨W2.heap.size, 0, none⟩) 1 1) [x]) := Lib.hid (by
      rw [← hW3]
      exact wish1 (w := W2) (va := .slice aa x.against.length ca) (x := x) (t := 41) ((IsRecs.below strK (HSK.out W2 HB12.out) (box_below' W2 _) (Nat.le_refl _)).mono strK (by omega)) HOK.out)
    have HW3 := Lib.hid hW3
    obtain ⟨k0, k1, k2, k3, k4, k5, k6, k7, k8, k9, k10⟩ := HXK.out W2 HB12.out
    clear hW3
    go_wp2_with fail
    rw [HW3.out]
    refine (few_any (W2.heap.size + 1) W3 _ [x] HWI.out).mono ?_
    rintro e w3 ⟨rfl, hw⟩
    rw [hw]
    clear hw k0 k1 k2 k3 k4 k5 k6 k7 k8 k9 k10
    obtain ⟨k0, k1, k2, k3, k4, k5, k6, k7, k8, k9, k10⟩ := HXK.out W3 HB13.out
    cases hfl : fewL [x] with
    | false =>
      clear hfl
      go_wp2
      go_ret
      exact ⟨rfl, HBW3.out⟩
    | true =>
      have hm40 : x.against.length ≤ 40 := (fewL_of hfl).2 0 (by simp)
      clear hfl
      obtain ⟨m, hm⟩ : ∃ m, x.against.length = m := ⟨_, rfl⟩
      have HM := Lib.hid hm
      by_cases hm0 : m = 0
      · subst hm0
        rw [hm] at k8
        clear hm
        go_wp2
        go_ret
        exact ⟨rfl, HBW3.out⟩
      obtain ⟨k, hk⟩ : ∃ k, tu % m = k := ⟨_, rfl⟩
      have hkm : k < m := by rw [← hk]; exact Nat.mod_lt _ (by omega)
      simp only [hm] at HXK HSK k8 hm40 ⊢
      have hmz : ((m : Int) == 0) = false := by simp; omega
      have hmz2 : ¬ (m : Int) = 0 := by omega
      have hmz3 : ((m : Int) == -1) = false := by simp
      have hrem : (tu : Int) % (m : Int) = (k : Int) := by rw [← hk]; simp
      have hrem2 : (tu : Int).tmod (m : Int) = (k : Int) := by rw [Int.tmod_eq_emod_of_nonneg (by omega)]; exact hrem
      clear hk
      obtain ⟨bs, oo, rfl, bbs, gs, gsl⟩ := IsStrs.cell (a := aa) (c := ca) (xs := x.against) (by rw [hm]; exact HSK.out W3 HB13.out) (k := k) (by omega)
      have HGS := Lib.hid gs
      clear gs k0 k1 k2 k3 k4 k5 k6 k7 k8 k9 k10
      obtain ⟨k0, k1, k2, k3, k4, k5, k6, k7, k8, k9, k10⟩ := HXK.out W3 HB13.out
      go_upto_region 6 with fail
      clear k0 k1 k2 k3 k4 k5 k6 k7 k8 k9 k10 hmz hmz2 hmz3 hrem hrem2
      obtain ⟨V, hV⟩ : ∃ V : List (Option Value), V = [some (.agg #[strV x.name, strV x.frm, strV x.to, strV x.cls, .int .i64 x.after, .int .i64 x.by_, .int .i64 x.crowd, .int .i64 x.pay, .slice (some ⟨bs, oo, none⟩) m ca, .bool x.back, .int .i64 x.els]), some (.agg #[strV x.name, strV x.frm, strV x.to, strV x.cls, .int .i64 x.after, .int .i64 x.by_, .int .i64 x.crowd, .int .i64 x.pay, .slice (some ⟨bs, oo, none⟩) m ca, .bool x.back, .int .i64 x.els]), none, none, none, none] := ⟨_, rfl⟩
      have HVV := Lib.hid hV
      clear hV
      refine wp_region_V [some 39, some 40, some 8, some 9, none, none] (fun L w' xs => ValsAt V L xs ∧ (Below W3.heap.size W3 w' ∧ (L 2 = true → ∃ g, xs 2 = .pointer (some ⟨g, 0, none⟩) ∧ W3.heap.size ≤ g ∧ (L 4 = false → CellsN w' g #[.string ByteArray.empty, .string ByteArray.empty, .string ByteArray.empty, .string ByteArray.empty, .int .i64 0, .int .i64 0, .int .i64 0, .int .i64 0, .slice none 0 0, .bool false, .int .i64 0]) ∧ (L 4 = true → CellsN w' g #[strV x.name, strV x.frm, strV x.to, strV x.cls, .int .i64 x.after, .int .i64 x.by_, .int .i64 x.crowd, .int .i64 x.pay, .slice (some ⟨bs, oo, none⟩) m ca, .bool x.back, .int .i64 x.els])) ∧ (L 3 = true → ∃ g, xs 3 = .pointer (some ⟨g, 0, none⟩) ∧ W3.heap.size ≤ g ∧ (L 5 = false → CellsN w' g #[.string ByteArray.empty, .string ByteArray.empty, .string ByteArray.empty, .string ByteArray.empty, .int .i64 0, .int .i64 0, .int .i64 0, .int .i64 0, .slice none 0 0, .bool false, .int .i64 0]) ∧ (L 5 = true → CellsN w' g #[strV x.name, strV x.frm, strV x.to, strV x.cls, .int .i64 x.after, .int .i64 x.by_, .int .i64 x.crowd, .int .i64 x.pay, .slice (some ⟨bs, oo, none⟩) m ca, .bool x.back, .int .i64 x.els])) ∧ (L 4 = true → L 2 = true ∧ L 3 = true) ∧ (L 5 = true → L 3 = true) ∧ (L 2 = true → L 3 = true → xs 2 ≠ xs 3))) (by kernel_rfl) (by kernel_rfl) (by rfl) (by rfl) (by rfl) ?_ ?_ ?_
      focus
        exact fun xs => ⟨ValsAt.none _ _, (Below.refl _ _).drew, (fun h => by cases h), (fun h => by cases h), (fun h => by cases h), (fun h => by cases h), (fun h => by cases h)⟩
      focus
        refine ⟨?_, ?_, ?_, ?_, ?_, ?_, trivial⟩
        all_goals
          intro L a' w' xs hi hd hf hJ K hK
          obtain ⟨hv, hb, h2, h3, h4, h5, hn⟩ := hJ
          have HF := Lib.hid hf
          have HVA := Lib.hid hv
          have HLI := Lib.hid hi
          clear hf hv hi
        focus
          clear hd
          obtain ⟨ρ, hρ⟩ : ∃ ρ, a'.eval = ρ := ⟨_, rfl⟩
          have hcst : ∀ v, ρ (.const v) = v := fun v => (congrFun hρ (.const v)).symm
          have l4 : ρ (.tmp 4) = .pointer (some ⟨b0 + 1, 0, none⟩) := (congrFun hρ (.tmp 4)).symm.trans (HF.out.lo 4 rfl)
          rw [if_pos (by simp [Region.wanted])]
          unfold Oper.wp
          rw [hρ]
          clear hρ
          have H2 := Lib.hid h2
          have H3 := Lib.hid h3
          have H4 := Lib.hid h4
          have H5 := Lib.hid h5
          have Hn := Lib.hid hn
          clear h2 h3 h4 h5 hn
          obtain ⟨k0, k1, k2, k3, k4, k5, k6, k7, k8, k9, k10⟩ := HXK.out _ (HB13.out.trans (hb.mono HB13.out.size))
          go_simp
          exact hK.out _ _ ⟨HVA.out.set (i := 0) (by rw [HVV.out]; rfl), hb, (by simp only [upd_ne (L := L) (show (2 : Nat) ≠ 0 by decide), upd_ne (L := L) (show (3 : Nat) ≠ 0 by decide), upd_ne (L := L) (show (4 : Nat) ≠ 0 by decide), upd_ne (L := L) (show (5 : Nat) ≠ 0 by decide), updV_ne (xs := xs) (show (2 : Nat) ≠ 0 by decide), updV_ne (xs := xs) (show (3 : Nat) ≠ 0 by decide)]; exact H2.out), (by simp only [upd_ne (L := L) (show (2 : Nat) ≠ 0 by decide), upd_ne (L := L) (show (3 : Nat) ≠ 0 by decide), upd_ne (L := L) (show (4 : Nat) ≠ 0 by decide), upd_ne (L := L) (show (5 : Nat) ≠ 0 by decide), updV_ne (xs := xs) (show (2 : Nat) ≠ 0 by decide), updV_ne (xs := xs) (show (3 : Nat) ≠ 0 by decide)]; exact H3.out), (by simp only [upd_ne (L := L) (show (2 : Nat) ≠ 0 by decide), upd_ne (L := L) (show (3 : Nat) ≠ 0 by decide), upd_ne (L := L) (show (4 : Nat) ≠ 0 by decide), upd_ne (L := L) (show (5 : Nat) ≠ 0 by decide), updV_ne (xs := xs) (show (2 : Nat) ≠ 0 by decide), updV_ne (xs := xs) (show (3 : Nat) ≠ 0 by decide)]; exact H4.out), (by simp only [upd_ne (L := L) (show (2 : Nat) ≠ 0 by decide), upd_ne (L := L) (show (3 : Nat) ≠ 0 by decide), upd_ne (L := L) (show (4 : Nat) ≠ 0 by decide), upd_ne (L := L) (show (5 : Nat) ≠ 0 by decide), updV_ne (xs := xs) (show (2 : Nat) ≠ 0 by decide), updV_ne (xs := xs) (show (3 : Nat) ≠ 0 by decide)]; exact H5.out), (by simp only [upd_ne (L := L) (show (2 : Nat) ≠ 0 by decide), upd_ne (L := L) (show (3 : Nat) ≠ 0 by decide), upd_ne (L := L) (show (4 : Nat) ≠ 0 by decide), upd_ne (L := L) (show (5 : Nat) ≠ 0 by decide), updV_ne (xs := xs) (show (2 : Nat) ≠ 0 by decide), updV_ne (xs := xs) (show (3 : Nat) ≠ 0 by decide)]; exact Hn.out)⟩
        focus
          clear hd
          obtain ⟨ρ, hρ⟩ : ∃ ρ, a'.eval = ρ := ⟨_, rfl⟩
          have hcst : ∀ v, ρ (.const v) = v := fun v => (congrFun hρ (.const v)).symm
          have l4 : ρ (.tmp 4) = .pointer (some ⟨b0 + 1, 0, none⟩) := (congrFun hρ (.tmp 4)).symm.trans (HF.out.lo 4 rfl)
          rw [if_pos (by simp [Region.wanted])]
          unfold Oper.wp
          rw [hρ]
          clear hρ
          have H2 := Lib.hid h2
          have H3 := Lib.hid h3
          have H4 := Lib.hid h4
          have H5 := Lib.hid h5
          have Hn := Lib.hid hn
          clear h2 h3 h4 h5 hn
          obtain ⟨k0, k1, k2, k3, k4, k5, k6, k7, k8, k9, k10⟩ := HXK.out _ (HB13.out.trans (hb.mono HB13.out.size))
          go_simp
          exact hK.out _ _ ⟨HVA.out.set (i := 1) (by rw [HVV.out]; rfl), hb, (by simp only [upd_ne (L := L) (show (2 : Nat) ≠ 1 by decide), upd_ne (L := L) (show (3 : Nat) ≠ 1 by decide), upd_ne (L := L) (show (4 : Nat) ≠ 1 by decide), upd_ne (L := L) (show (5 : Nat) ≠ 1 by decide), updV_ne (xs := xs) (show (2 : Nat) ≠ 1 by decide), updV_ne (xs := xs) (show (3 : Nat) ≠ 1 by decide)]; exact H2.out), (by simp only [upd_ne (L := L) (show (2 : Nat) ≠ 1 by decide), upd_ne (L := L) (show (3 : Nat) ≠ 1 by decide), upd_ne (L := L) (show (4 : Nat) ≠ 1 by decide), upd_ne (L := L) (show (5 : Nat) ≠ 1 by decide), updV_ne (xs := xs) (show (2 : Nat) ≠ 1 by decide), updV_ne (xs := xs) (show (3 : Nat) ≠ 1 by decide)]; exact H3.out), (by simp only [upd_ne (L := L) (show (2 : Nat) ≠ 1 by decide), upd_ne (L := L) (show (3 : Nat) ≠ 1 by decide), upd_ne (L := L) (show (4 : Nat) ≠ 1 by decide), upd_ne (L := L) (show (5 : Nat) ≠ 1 by decide), updV_ne (xs := xs) (show (2 : Nat) ≠ 1 by decide), updV_ne (xs := xs) (show (3 : Nat) ≠ 1 by decide)]; exact H4.out), (by simp only [upd_ne (L := L) (show (2 : Nat) ≠ 1 by decide), upd_ne (L := L) (show (3 : Nat) ≠ 1 by decide), upd_ne (L := L) (show (4 : Nat) ≠ 1 by decide), upd_ne (L := L) (show (5 : Nat) ≠ 1 by decide), updV_ne (xs := xs) (show (2 : Nat) ≠ 1 by decide), updV_ne (xs := xs) (show (3 : Nat) ≠ 1 by decide)]; exact H5.out), (by simp only [upd_ne (L := L) (show (2 : Nat) ≠ 1 by decide), upd_ne (L := L) (show (3 : Nat) ≠ 1 by decide), upd_ne (L := L) (show (4 : Nat) ≠ 1 by decide), upd_ne (L := L) (show (5 : Nat) ≠ 1 by decide), updV_ne (xs := xs) (show (2 : Nat) ≠ 1 by decide), updV_ne (xs := xs) (show (3 : Nat) ≠ 1 by decide)]; exact Hn.out)⟩
        focus
          clear hd
          obtain ⟨ρ, hρ⟩ : ∃ ρ, a'.eval = ρ := ⟨_, rfl⟩
          have hcst : ∀ v, ρ (.const v) = v := fun v => (congrFun hρ (.const v)).symm
          rw [if_pos (by simp [Region.wanted])]
          unfold Oper.wp
          rw [hρ]
          clear hρ
          have H2 := Lib.hid h2
          have H3 := Lib.hid h3
          have H4 := Lib.hid h4
          have H5 := Lib.hid h5
          have Hn := Lib.hid hn
          clear h2 h3 h4 h5 hn
          have HBN := Lib.hid (box_below' w' (.cells #[.string ByteArray.empty, .string ByteArray.empty, .string ByteArray.empty, .string ByteArray.empty, .int .i64 0, .int .i64 0, .int .i64 0, .int .i64 0, .slice none 0 0, .bool false, .int .i64 0] 41))
          have HCN := Lib.hid (CellsN.new w' #[.string ByteArray.empty, .string ByteArray.empty, .string ByteArray.empty, .string ByteArray.empty, .int .i64 0, .int .i64 0, .int .i64 0, .int .i64 0, .slice none 0 0, .bool false, .int .i64 0] 41)
          go_simp
          exact hK.out _ _ ⟨HVA.out.free (i := 2) (by rw [HVV.out]; rfl) _, hb.trans (HBN.out.mono hb.size), (fun _ => ⟨w'.heap.size, updV_self _ _ _, hb.size, (fun _ => HCN.out), (fun h => by simp only [upd_ne (L := L) (show (3 : Nat) ≠ 2 by decide), upd_ne (L := L) (show (4 : Nat) ≠ 2 by decide), upd_ne (L := L) (show (5 : Nat) ≠ 2 by decide), updV_ne (xs := xs) (show (3 : Nat) ≠ 2 by decide)] at h; have := (H4.out h).1; rw [HLI.out] at this; cases this)⟩), (fun h => by
              simp only [upd_ne (L := L) (show (3 : Nat) ≠ 2 by decide), upd_ne (L := L) (show (4 : Nat) ≠ 2 by decide), upd_ne (L := L) (show (5 : Nat) ≠ 2 by decide), updV_ne (xs := xs) (show (3 : Nat) ≠ 2 by decide)] at h ⊢
              obtain ⟨g, e, hg, h1, h2⟩ := H3.out h
              exact ⟨g, e, hg, fun q => (h1 q).ext HBN.out, fun q => (h2 q).ext HBN.out⟩), (fun h => by
              simp only [upd_ne (L := L) (show (3 : Nat) ≠ 2 by decide), upd_ne (L := L) (show (4 : Nat) ≠ 2 by decide), upd_ne (L := L) (show (5 : Nat) ≠ 2 by decide), updV_ne (xs := xs) (show (3 : Nat) ≠ 2 by decide)] at h
              have := (H4.out h).1
              rw [HLI.out] at this
              cases this), (by simp only [upd_ne (L := L) (show (3 : Nat) ≠ 2 by decide), upd_ne (L := L) (show (4 : Nat) ≠ 2 by decide), upd_ne (L := L) (show (5 : Nat) ≠ 2 by decide), updV_ne (xs := xs) (show (3 : Nat) ≠ 2 by decide)]; exact H5.out), (fun h h' => by
              simp only [upd_ne (L := L) (show (3 : Nat) ≠ 2 by decide), upd_ne (L := L) (show (4 : Nat) ≠ 2 by decide), upd_ne (L := L) (show (5 : Nat) ≠ 2 by decide), updV_ne (xs := xs) (show (3 : Nat) ≠ 2 by decide), updV_self] at h h' ⊢
              obtain ⟨g, e, hg, h1, h2⟩ := H3.out h'
              have hlt : g < w'.heap.size := by
                cases hq : L 5 with
                | false => exact (h1 hq).lt
                | true => exact (h2 hq).lt
              rw [e]
              intro he
              injection he with he
              injection he with he
              injection he with he
              omega)⟩
        focus
          clear hd
          obtain ⟨ρ, hρ⟩ : ∃ ρ, a'.eval = ρ := ⟨_, rfl⟩
          have hcst : ∀ v, ρ (.const v) = v := fun v => (congrFun hρ (.const v)).symm
          rw [if_pos (by simp [Region.wanted])]
          unfold Oper.wp
          rw [hρ]
          clear hρ
          have H2 := Lib.hid h2
          have H3 := Lib.hid h3
          have H4 := Lib.hid h4
          have H5 := Lib.hid h5
          have Hn := Lib.hid hn
          clear h2 h3 h4 h5 hn
          have HBN := Lib.hid (box_below' w' (.cells #[.string ByteArray.empty, .string ByteArray.empty, .string ByteArray.empty, .string ByteArray.empty, .int .i64 0, .int .i64 0, .int .i64 0, .int .i64 0, .slice none 0 0, .bool false, .int .i64 0] 41))
          have HCN := Lib.hid (CellsN.new w' #[.string ByteArray.empty, .string ByteArray.empty, .string ByteArray.empty, .string ByteArray.empty, .int .i64 0, .int .i64 0, .int .i64 0, .int .i64 0, .slice none 0 0, .bool false, .int .i64 0] 41)
          go_simp
          exact hK.out _ _ ⟨HVA.out.free (i := 3) (by rw [HVV.out]; rfl) _, hb.trans (HBN.out.mono hb.size), (fun h => by
              simp only [upd_ne (L := L) (show (2 : Nat) ≠ 3 by decide), upd_ne (L := L) (show (4 : Nat) ≠ 3 by decide), upd_ne (L := L) (show (5 : Nat) ≠ 3 by decide), updV_ne (xs := xs) (show (2 : Nat) ≠ 3 by decide)] at h ⊢
              obtain ⟨g, e, hg, h1, h2⟩ := H2.out h
              exact ⟨g, e, hg, fun q => (h1 q).ext HBN.out, fun q => (h2 q).ext HBN.out⟩), (fun _ => ⟨w'.heap.size, updV_self _ _ _, hb.size, (fun _ => HCN.out), (fun h => by simp only [upd_ne (L := L) (show (2 : Nat) ≠ 3 by decide), upd_ne (L := L) (show (4 : Nat) ≠ 3 by decide), upd_ne (L := L) (show (5 : Nat) ≠ 3 by decide), updV_ne (xs := xs) (show (2 : Nat) ≠ 3 by decide)] at h; have := H5.out h; rw [HLI.out] at this; cases this)⟩), (fun h => by
              simp only [upd_ne (L := L) (show (2 : Nat) ≠ 3 by decide), upd_ne (L := L) (show (4 : Nat) ≠ 3 by decide), upd_ne (L := L) (show (5 : Nat) ≠ 3 by decide), updV_ne (xs := xs) (show (2 : Nat) ≠ 3 by decide)] at h
              have := (H4.out h).2
              rw [HLI.out] at this
              cases this), (fun h => by
              simp only [upd_ne (L := L) (show (2 : Nat) ≠ 3 by decide), upd_ne (L := L) (show (4 : Nat) ≠ 3 by decide), upd_ne (L := L) (show (5 : Nat) ≠ 3 by decide), updV_ne (xs := xs) (show (2 : Nat) ≠ 3 by decide)] at h
              have := H5.out h
              rw [HLI.out] at this
              cases this), (fun h h' => by
              simp only [upd_ne (L := L) (show (2 : Nat) ≠ 3 by decide), upd_ne (L := L) (show (4 : Nat) ≠ 3 by decide), upd_ne (L := L) (show (5 : Nat) ≠ 3 by decide), updV_ne (xs := xs) (show (2 : Nat) ≠ 3 by decide), updV_self] at h h' ⊢
              obtain ⟨g, e, hg, h1, h2⟩ := H2.out h
              have hlt : g < w'.heap.size := by
                cases hq : L 4 with
                | false => exact (h1 hq).lt
                | true => exact (h2 hq).lt
              rw [e]
              intro he
              injection he with he
              injection he with he
              injection he with he
              omega)⟩
        focus
          obtain ⟨d2, d0, _, _, d3, _⟩ := hd
          obtain ⟨ρ, hρ⟩ : ∃ ρ, a'.eval = ρ := ⟨_, rfl⟩
          have hcst : ∀ v, ρ (.const v) = v := fun v => (congrFun hρ (.const v)).symm
          have v2 : ρ (.tmp 8) = xs 2 := (congrFun hρ (.tmp 8)).symm.trans (HF.out.ev 2 rfl d2)
          have v0 : ρ (.tmp 39) = .agg #[strV x.name, strV x.frm, strV x.to, strV x.cls, .int .i64 x.after, .int .i64 x.by_, .int .i64 x.crowd, .int .i64 x.pay, .slice (some ⟨bs, oo, none⟩) m ca, .bool x.back, .int .i64 x.els] := (congrFun hρ (.tmp 39)).symm.trans ((HF.out.ev 0 rfl d0).trans (HVA.out 0 _ (by rw [HVV.out]; rfl) d0))
          rw [if_pos (by simp [Region.wanted])]
          unfold Oper.wp
          rw [hρ]
          clear hρ
          have H2 := Lib.hid h2
          have H3 := Lib.hid h3
          have H4 := Lib.hid h4
          have H5 := Lib.hid h5
          have Hn := Lib.hid hn
          clear h2 h3 h4 h5 hn
          obtain ⟨g, e1, hg, h1, _⟩ := H2.out d2
          have hcz := h1 HLI.out
          have E1 := Lib.hid e1
          rw [e1] at v2
          clear e1 h1
          have hcs := (((((((((((hcz.set 0 (strV x.name)).set 1 (strV x.frm)).set 2 (strV x.to)).set 3 (strV x.cls)).set 4 (.int .i64 x.after)).set 5 (.int .i64 x.by_)).set 6 (.int .i64 x.crowd)).set 7 (.int .i64 x.pay)).set 8 (.slice (some ⟨bs, oo, none⟩) m ca)).set 9 (.bool x.back)).set 10 (.int .i64 x.els))
          simp only [List.setIfInBounds_toArray, List.set_cons_zero, List.set_cons_succ] at hcs
          have HCS := Lib.hid hcs
          have HGR : Hid (w'.grownBy (((((((((((w'.setCell ⟨g, 0, none⟩ (strV x.name)).setCell ⟨g, 1, none⟩ (strV x.frm)).setCell ⟨g, 2, none⟩ (strV x.to)).setCell ⟨g, 3, none⟩ (strV x.cls)).setCell ⟨g, 4, none⟩ (.int .i64 x.after)).setCell ⟨g, 5, none⟩ (.int .i64 x.by_)).setCell ⟨g, 6, none⟩ (.int .i64 x.crowd)).setCell ⟨g, 7, none⟩ (.int .i64 x.pay)).setCell ⟨g, 8, none⟩ (.slice (some ⟨bs, oo, none⟩) m ca)).setCell ⟨g, 9, none⟩ (.bool x.back)).setCell ⟨g, 10, none⟩ (.int .i64 x.els)) (some g)) := Lib.hid (grown_trans (grown_trans (grown_trans (grown_trans (grown_trans (grown_trans (grown_trans (grown_trans (grown_trans (grown_trans (grown_trans (grown_refl w' (some g)) (grown_setCell _ ⟨g, 0, none⟩ _)) (grown_setCell _ ⟨g, 1, none⟩ _)) (grown_setCell _ ⟨g, 2, none⟩ _)) (grown_setCell _ ⟨g, 3, none⟩ _)) (grown_setCell _ ⟨g, 4, none⟩ _)) (grown_setCell _ ⟨g, 5, none⟩ _)) (grown_setCell _ ⟨g, 6, none⟩ _)) (grown_setCell _ ⟨g, 7, none⟩ _)) (grown_setCell _ ⟨g, 8, none⟩ _)) (grown_setCell _ ⟨g, 9, none⟩ _)) (grown_setCell _ ⟨g, 10, none⟩ _))
          have HBS : Hid (Below W3.heap.size W3 (((((((((((w'.setCell ⟨g, 0, none⟩ (strV x.name)).setCell ⟨g, 1, none⟩ (strV x.frm)).setCell ⟨g, 2, none⟩ (strV x.to)).setCell ⟨g, 3, none⟩ (strV x.cls)).setCell ⟨g, 4, none⟩ (.int .i64 x.after)).setCell ⟨g, 5, none⟩ (.int .i64 x.by_)).setCell ⟨g, 6, none⟩ (.int .i64 x.crowd)).setCell ⟨g, 7, none⟩ (.int .i64 x.pay)).setCell ⟨g, 8, none⟩ (.slice (some ⟨bs, oo, none⟩) m ca)).setCell ⟨g, 9, none⟩ (.bool x.back)).setCell ⟨g, 10, none⟩ (.int .i64 x.els))) := Lib.hid (by
            repeat (with_reducible refine Below.setCell ?_ ?_ _)
            all_goals first | exact hb | exact hg)
          have c0 := hcz.cell 0
          have f0 := hcz.free 0
          have c1 := hcz.cell 1
          have f1 := hcz.free 1
          have c2 := hcz.cell 2
          have f2 := hcz.free 2
          have c3 := hcz.cell 3
          have f3 := hcz.free 3
          have c4 := hcz.cell 4
          have f4 := hcz.free 4
          have c5 := hcz.cell 5
          have f5 := hcz.free 5
          have c6 := hcz.cell 6
          have f6 := hcz.free 6
          have c7 := hcz.cell 7
          have f7 := hcz.free 7
          have c8 := hcz.cell 8
          have f8 := hcz.free 8
          have c9 := hcz.cell 9
          have f9 := hcz.free 9
          have c10 := hcz.cell 10
          have f10 := hcz.free 10
          simp at c0 c1 c2 c3 c4 c5 c6 c7 c8 c9 c10
          clear hcs
          go_simp
          exact hK.out _ _ ⟨HVA.out.free (i := 4) (by rw [HVV.out]; rfl) undef, HBS.out, (fun h => ⟨g, by rw [updV_ne (by decide)]; exact E1.out, hg, (fun q => by rw [upd_self] at q; cases q), (fun _ => HCS.out)⟩), (fun h => by
              simp only [upd_ne (L := L) (show (2 : Nat) ≠ 4 by decide), upd_ne (L := L) (show (3 : Nat) ≠ 4 by decide), upd_ne (L := L) (show (5 : Nat) ≠ 4 by decide), updV_ne (xs := xs) (show (2 : Nat) ≠ 4 by decide), updV_ne (xs := xs) (show (3 : Nat) ≠ 4 by decide)] at h ⊢
              obtain ⟨g', e', hg', h1, h2⟩ := H3.out h
              have hne : g' ≠ g := by
                rintro rfl
                exact Hn.out d2 h (by rw [E1.out, e'])
              exact ⟨g', e', hg', fun q => (h1 q).grown HGR.out (fun e => hne (by injection e)), fun q => (h2 q).grown HGR.out (fun e => hne (by injection e))⟩), (fun _ => by simp only [upd_ne (L := L) (show (2 : Nat) ≠ 4 by decide), upd_ne (L := L) (show (3 : Nat) ≠ 4 by decide), upd_ne (L := L) (show (5 : Nat) ≠ 4 by decide), updV_ne (xs := xs) (show (2 : Nat) ≠ 4 by decide), updV_ne (xs := xs) (show (3 : Nat) ≠ 4 by decide)]; exact ⟨d2, d3⟩), (by simp only [upd_ne (L := L) (show (2 : Nat) ≠ 4 by decide), upd_ne (L := L) (show (3 : Nat) ≠ 4 by decide), upd_ne (L := L) (show (5 : Nat) ≠ 4 by decide), updV_ne (xs := xs) (show (2 : Nat) ≠ 4 by decide), updV_ne (xs := xs) (show (3 : Nat) ≠ 4 by decide)]; exact H5.out), (by simp only [upd_ne (L := L) (show (2 : Nat) ≠ 4 by decide), upd_ne (L := L) (show (3 : Nat) ≠ 4 by decide), upd_ne (L := L) (show (5 : Nat) ≠ 4 by decide), updV_ne (xs := xs) (show (2 : Nat) ≠ 4 by decide), updV_ne (xs := xs) (show (3 : Nat) ≠ 4 by decide)]; exact Hn.out)⟩
        focus
          obtain ⟨d3, d1, d4, d0, _, d2, _, _, _⟩ := hd
          obtain ⟨ρ, hρ⟩ : ∃ ρ, a'.eval = ρ := ⟨_, rfl⟩
          have hcst : ∀ v, ρ (.const v) = v := fun v => (congrFun hρ (.const v)).symm
          have v3 : ρ (.tmp 9) = xs 3 := (congrFun hρ (.tmp 9)).symm.trans (HF.out.ev 3 rfl d3)
          have v1 : ρ (.tmp 40) = .agg #[strV x.name, strV x.frm, strV x.to, strV x.cls, .int .i64 x.after, .int .i64 x.by_, .int .i64 x.crowd, .int .i64 x.pay, .slice (some ⟨bs, oo, none⟩) m ca, .bool x.back, .int .i64 x.els] := (congrFun hρ (.tmp 40)).symm.trans ((HF.out.ev 1 rfl d1).trans (HVA.out 1 _ (by rw [HVV.out]; rfl) d1))
          rw [if_pos (by simp [Region.wanted])]
          unfold Oper.wp
          rw [hρ]
          clear hρ
          have H2 := Lib.hid h2
          have H3 := Lib.hid h3
          have H4 := Lib.hid h4
          have H5 := Lib.hid h5
          have Hn := Lib.hid hn
          clear h2 h3 h4 h5 hn
          obtain ⟨g, e1, hg, h1, _⟩ := H3.out d3
          have hcz := h1 HLI.out
          have E1 := Lib.hid e1
          rw [e1] at v3
          clear e1 h1
          have hcs := (((((((((((hcz.set 0 (strV x.name)).set 1 (strV x.frm)).set 2 (strV x.to)).set 3 (strV x.cls)).set 4 (.int .i64 x.after)).set 5 (.int .i64 x.by_)).set 6 (.int .i64 x.crowd)).set 7 (.int .i64 x.pay)).set 8 (.slice (some ⟨bs, oo, none⟩) m ca)).set 9 (.bool x.back)).set 10 (.int .i64 x.els))
          simp only [List.setIfInBounds_toArray, List.set_cons_zero, List.set_cons_succ] at hcs
          have HCS := Lib.hid hcs
          have HGR : Hid (w'.grownBy (((((((((((w'.setCell ⟨g, 0, none⟩ (strV x.name)).setCell ⟨g, 1, none⟩ (strV x.frm)).setCell ⟨g, 2, none⟩ (strV x.to)).setCell ⟨g, 3, none⟩ (strV x.cls)).setCell ⟨g, 4, none⟩ (.int .i64 x.after)).setCell ⟨g, 5, none⟩ (.int .i64 x.by_)).setCell ⟨g, 6, none⟩ (.int .i64 x.crowd)).setCell ⟨g, 7, none⟩ (.int .i64 x.pay)).setCell ⟨g, 8, none⟩ (.slice (some ⟨bs, oo, none⟩) m ca)).setCell ⟨g, 9, none⟩ (.bool x.back)).setCell ⟨g, 10, none⟩ (.int .i64 x.els)) (some g)) := Lib.hid (grown_trans (grown_trans (grown_trans (grown_trans (grown_trans (grown_trans (grown_trans (grown_trans (grown_trans (grown_trans (grown_trans (grown_refl w' (some g)) (grown_setCell _ ⟨g, 0, none⟩ _)) (grown_setCell _ ⟨g, 1, none⟩ _)) (grown_setCell _ ⟨g, 2, none⟩ _)) (grown_setCell _ ⟨g, 3, none⟩ _)) (grown_setCell _ ⟨g, 4, none⟩ _)) (grown_setCell _ ⟨g, 5, none⟩ _)) (grown_setCell _ ⟨g, 6, none⟩ _)) (grown_setCell _ ⟨g, 7, none⟩ _)) (grown_setCell _ ⟨g, 8, none⟩ _)) (grown_setCell _ ⟨g, 9, none⟩ _)) (grown_setCell _ ⟨g, 10, none⟩ _))
          have HBS : Hid (Below W3.heap.size W3 (((((((((((w'.setCell ⟨g, 0, none⟩ (strV x.name)).setCell ⟨g, 1, none⟩ (strV x.frm)).setCell ⟨g, 2, none⟩ (strV x.to)).setCell ⟨g, 3, none⟩ (strV x.cls)).setCell ⟨g, 4, none⟩ (.int .i64 x.after)).setCell ⟨g, 5, none⟩ (.int .i64 x.by_)).setCell ⟨g, 6, none⟩ (.int .i64 x.crowd)).setCell ⟨g, 7, none⟩ (.int .i64 x.pay)).setCell ⟨g, 8, none⟩ (.slice (some ⟨bs, oo, none⟩) m ca)).setCell ⟨g, 9, none⟩ (.bool x.back)).setCell ⟨g, 10, none⟩ (.int .i64 x.els))) := Lib.hid (by
            repeat (with_reducible refine Below.setCell ?_ ?_ _)
            all_goals first | exact hb | exact hg)
          have c0 := hcz.cell 0
          have f0 := hcz.free 0
          have c1 := hcz.cell 1
          have f1 := hcz.free 1
          have c2 := hcz.cell 2
          have f2 := hcz.free 2
          have c3 := hcz.cell 3
          have f3 := hcz.free 3
          have c4 := hcz.cell 4
          have f4 := hcz.free 4
          have c5 := hcz.cell 5
          have f5 := hcz.free 5
          have c6 := hcz.cell 6
          have f6 := hcz.free 6
          have c7 := hcz.cell 7
          have f7 := hcz.free 7
          have c8 := hcz.cell 8
          have f8 := hcz.free 8
          have c9 := hcz.cell 9
          have f9 := hcz.free 9
          have c10 := hcz.cell 10
          have f10 := hcz.free 10
          simp at c0 c1 c2 c3 c4 c5 c6 c7 c8 c9 c10
          clear hcs
          go_simp
          exact hK.out _ _ ⟨HVA.out.free (i := 5) (by rw [HVV.out]; rfl) undef, HBS.out, (fun h => by
              simp only [upd_ne (L := L) (show (2 : Nat) ≠ 5 by decide), upd_ne (L := L) (show (3 : Nat) ≠ 5 by decide), upd_ne (L := L) (show (4 : Nat) ≠ 5 by decide), updV_ne (xs := xs) (show (2 : Nat) ≠ 5 by decide), updV_ne (xs := xs) (show (3 : Nat) ≠ 5 by decide)] at h ⊢
              obtain ⟨g', e', hg', h1, h2⟩ := H2.out h
              have hne : g' ≠ g := by
                rintro rfl
                exact Hn.out h d3 (by rw [E1.out, e'])
              exact ⟨g', e', hg', fun q => (h1 q).grown HGR.out (fun e => hne (by injection e)), fun q => (h2 q).grown HGR.out (fun e => hne (by injection e))⟩), (fun h => ⟨g, by rw [updV_ne (by decide)]; exact E1.out, hg, (fun q => by rw [upd_self] at q; cases q), (fun _ => HCS.out)⟩), (by simp only [upd_ne (L := L) (show (2 : Nat) ≠ 5 by decide), upd_ne (L := L) (show (3 : Nat) ≠ 5 by decide), upd_ne (L := L) (show (4 : Nat) ≠ 5 by decide), updV_ne (xs := xs) (show (2 : Nat) ≠ 5 by decide), updV_ne (xs := xs) (show (3 : Nat) ≠ 5 by decide)]; exact H4.out), (fun _ => by simp only [upd_ne (L := L) (show (2 : Nat) ≠ 5 by decide), upd_ne (L := L) (show (3 : Nat) ≠ 5 by decide), upd_ne (L := L) (show (4 : Nat) ≠ 5 by decide), updV_ne (xs := xs) (show (2 : Nat) ≠ 5 by decide), updV_ne (xs := xs) (show (3 : Nat) ≠ 5 by decide)]; exact d3), (by simp only [upd_ne (L := L) (show (2 : Nat) ≠ 5 by decide), upd_ne (L := L) (show (3 : Nat) ≠ 5 by decide), upd_ne (L := L) (show (4 : Nat) ≠ 5 by decide), updV_ne (xs := xs) (show (2 : Nat) ≠ 5 by decide), updV_ne (xs := xs) (show (3 : Nat) ≠ 5 by decide)]; exact Hn.out)⟩
      focus
        intro L w' xs hL hJ
        obtain ⟨hv, hb, h2, h3, h4, h5, hn⟩ := hJ
        have e0 : xs 0 = .agg #[strV x.name, strV x.frm, strV x.to, strV x.cls, .int .i64 x.after, .int .i64 x.by_, .int .i64 x.crowd, .int .i64 x.pay, .slice (some ⟨bs, oo, none⟩) m ca, .bool x.back, .int .i64 x.els] := hv 0 _ (by rw [HVV.out]; rfl) (hL 0 (by decide))
        have e1 : xs 1 = .agg #[strV x.name, strV x.frm, strV x.to, strV x.cls, .int .i64 x.after, .int .i64 x.by_, .int .i64 x.crowd, .int .i64 x.pay, .slice (some ⟨bs, oo, none⟩) m ca, .bool x.back, .int .i64 x.els] := hv 1 _ (by rw [HVV.out]; rfl) (hL 1 (by decide))
        simp only [putGo, Act.put, List.setIfInBounds_toArray, List.set_cons_zero, List.set_cons_succ, e0, e1]
        clear hv e0 e1
        obtain ⟨g8, e2, hg8, _, hc8⟩ := h2 (hL 2 (by decide))
        obtain ⟨g9, e3, hg9, _, hc9⟩ := h3 (hL 3 (by decide))
        have hne := hn (hL 2 (by decide)) (hL 3 (by decide))
        have hc8 := hc8 (hL 4 (by decide))
        have hc9 := hc9 (hL 5 (by decide))
        rw [e2, e3] at hne
        rw [e2, e3]
        have hne89 : g8 ≠ g9 := fun e => hne (by rw [e])
        have HB4 : Hid (Below W3.heap.size W3 w') := Lib.hid hb
        have HC8 := Lib.hid hc8
        have HC9 := Lib.hid hc9
        clear hb h2 h3 h4 h5 hn e2 e3 hne hc8 hc9 hL
        obtain ⟨w4, rfl⟩ : ∃ W, W = w' := ⟨_, rfl⟩
        have HB14 : Hid (Below W1.heap.size W1 w4) := Lib.hid (HB13.out.trans (HB4.out.mono HB13.out.size))
        have HS4 : Hid (IsStrs w4.heap.size w4 (.slice (some ⟨bs, oo, none⟩) m ca) x.against) := Lib.hid (HSK.out w4 HB14.out)
        obtain ⟨AD, hAD⟩ : ∃ l, x.against.drop k = l := ⟨_, rfl⟩
        obtain ⟨AT, hAT⟩ : ∃ l, x.against.take k = l := ⟨_, rfl⟩
        have HSD : Hid (∀ W, Below w4.heap.size w4 W → SrcRecs 1 strR ([] : Str) w4.heap.size W (.slice (some ⟨bs, oo + k, none⟩) (m - k) (ca - k)) AD) := Lib.hid fun W hW => by
          have h := IsRecs.dropS (i := k) (IsRecs.below strK HS4.out hW (Nat.le_refl _)) (by omega)
          rw [hm, hAD, Nat.mul_one] at h
          exact IsRecs.src strK (by decide) h (Nat.le_refl _)
        have HST : Hid (∀ W, Below w4.heap.size w4 W → SrcRecs 1 strR ([] : Str) w4.heap.size W (.slice (some ⟨bs, oo, none⟩) k ca) AT) := Lib.hid fun W hW => by
          have h := IsRecs.takeS (i := k) (IsRecs.below strK HS4.out hW (Nat.le_refl _)) (by omega)
          rw [hAT] at h
          exact IsRecs.src strK (by decide) h (Nat.le_refl _)
        have hlD : AD.length ≤ 40 := by rw [← hAD, List.length_drop]; omega
        have hlT : AT.length ≤ 40 := by rw [← hAT, List.length_take]; omega
        have HPM : Hid ((AD ++ AT).Perm x.against) := Lib.hid (by
          rw [← hAD, ← hAT]
          have h := List.perm_append_comm (l₁ := x.against.drop k) (l₂ := x.against.take k)
          rwa [List.take_append_drop] at h)
        clear hAD hAT
        have hmca : m ≤ ca := by omega
        have hck : ¬ ca = k := by omega
        have hi0 : (0 : Int) ≤ (k : Int) := by omega
        have hi1 : (k : Int) ≤ (m : Int) := by omega
        have hi2 : (m : Int) ≤ (ca : Int) := by omega
        have hi3 : (k : Int) ≤ (ca : Int) := by omega
        have hi4 : (k : Int) < (m : Int) := by omega
        have hg84 := HC8.out.lt
        have hg94 := HC9.out.lt
        go_upto_region 7 with fail
        obtain ⟨V, hV⟩ : ∃ V : List (Option Value), V = [none, some (.pointer (some ⟨b0 + 1, 8, none⟩)), some (.slice (some ⟨bs, oo, none⟩) m ca), some (.int .i64 k), some (.slice (some ⟨bs, oo + k, none⟩) (m - k) (ca - k)), none, some (.pointer (some ⟨b0 + 1, 8, none⟩)), some (.slice (some ⟨bs, oo, none⟩) m ca), some (.int .i64 k), some (.slice (some ⟨bs, oo, none⟩) k ca), none, some (.pointer (some ⟨g8, 8, none⟩)), none] := ⟨_, rfl⟩
        have HVV := Lib.hid hV
        clear hV
        refine wp_region_V [some 41, some 42, some 43, some 44, some 45, some 46, some 47, some 48, some 49, some 50, some 51, some 52, none] (fun L w' xs => ValsAt V L xs ∧ ((L 12 = false ∧ Below w4.heap.size w4 w' ∧ (L 0 = true → L 5 = false → OwnStrs w4.heap.size w' (xs 0) []) ∧ (L 5 = true → L 0 = true ∧ (L 10 = false → OwnStrs w4.heap.size w' (xs 5) AD)) ∧ (L 10 = true → L 5 = true ∧ OwnStrs w4.heap.size w' (xs 10) (AD ++ AT))) ∨ (L 12 = true ∧ (∀ j, j < 12 → L j = true) ∧ ∃ w8 a n c, w' = w8.setCell ⟨g8, 8, none⟩ (.slice a n c) ∧ Below w4.heap.size w4 w8 ∧ OwnStrs w4.heap.size w8 (.slice a n c) (AD ++ AT)))) (by kernel_rfl) (by kernel_rfl) (by rfl) (by rfl) (by rfl) ?_ ?_ ?_
        focus
          exact fun xs => ⟨ValsAt.none _ _, Or.inl ⟨rfl, (Below.refl _ _).drew, (fun h _ => by cases h), (fun h => by cases h), (fun h => by cases h)⟩⟩
        focus
          refine ⟨?_, ?_, ?_, ?_, ?_, ?_, ?_, ?_, ?_, ?_, ?_, ?_, ?_, trivial⟩
          all_goals
            intro L a' w' xs hi hd hf hJ K hK
            obtain ⟨hv, hw⟩ := hJ
            have HF := Lib.hid hf
            have HVA := Lib.hid hv
            have HLI := Lib.hid hi
            clear hf hv hi
          focus
            clear hd
            obtain ⟨ρ, hρ⟩ : ∃ ρ, a'.eval = ρ := ⟨_, rfl⟩
            have hcst : ∀ v, ρ (.const v) = v := fun v => (congrFun hρ (.const v)).symm
            rw [if_pos (by simp [Region.wanted])]
            unfold Oper.wp
            rw [hρ]
            clear hρ
            rcases hw with ⟨h12, hb, h0, h1, h2⟩ | ⟨_, h, _⟩
            rotate_left
            · have := h 0 (by decide); rw [HLI.out] at this; cases this
            have H0 := Lib.hid h0
            have H1 := Lib.hid h1
            have H2 := Lib.hid h2
            clear h0 h1 h2
            have HBN := Lib.hid (box_below' w' (.cells #[] 9))
            have HMD := Lib.hid (OwnRecs.made (ty := 9) (k := 1) (R := strR) (L := 8796093022208) (d0 := ([] : Str)) (C := w4.heap.size) (w := w') rfl hb.size)
            go_simp
            exact hK.out _ _ ⟨HVA.out.free (i := 0) (by rw [HVV.out]; rfl) _, Or.inl ⟨(by rw [upd_ne (by decide)]; exact h12), hb.trans (HBN.out.mono hb.size), (fun _ _ => by rw [updV_self]; exact HMD.out), (fun h => by simp only [upd_ne (L := L) (show (5 : Nat) ≠ 0 by decide), upd_ne (L := L) (show (10 : Nat) ≠ 0 by decide), upd_ne (L := L) (show (12 : Nat) ≠ 0 by decide), updV_ne (xs := xs) (show (5 : Nat) ≠ 0 by decide), updV_ne (xs := xs) (show (10 : Nat) ≠ 0 by decide)] at h ⊢; have := (H1.out h).1; rw [HLI.out] at this; cases this), (fun h => by simp only [upd_ne (L := L) (show (5 : Nat) ≠ 0 by decide), upd_ne (L := L) (show (10 : Nat) ≠ 0 by decide), upd_ne (L := L) (show (12 : Nat) ≠ 0 by decide), updV_ne (xs := xs) (show (5 : Nat) ≠ 0 by decide), updV_ne (xs := xs) (show (10 : Nat) ≠ 0 by decide)] at h ⊢; exact ⟨(H2.out h).1, (OwnRecs.below strK (H2.out h).2 HBN.out hb.size)⟩)⟩⟩
          focus
            clear hd
            obtain ⟨ρ, hρ⟩ : ∃ ρ, a'.eval = ρ := ⟨_, rfl⟩
            have hcst : ∀ v, ρ (.const v) = v := fun v => (congrFun hρ (.const v)).symm
            have l4 : ρ (.tmp 4) = .pointer (some ⟨b0 + 1, 0, none⟩) := (congrFun hρ (.tmp 4)).symm.trans (HF.out.lo 4 rfl)
            rw [if_pos (by simp [Region.wanted])]
            unfold Oper.wp
            rw [hρ]
            clear hρ
            rcases hw with ⟨h12, hb, h0, h1, h2⟩ | ⟨_, h, _⟩
            rotate_left
            · have := h 1 (by decide); rw [HLI.out] at this; cases this
            have H0 := Lib.hid h0
            have H1 := Lib.hid h1
            have H2 := Lib.hid h2
            clear h0 h1 h2
            go_simp
            exact hK.out _ _ ⟨HVA.out.set (i := 1) (by rw [HVV.out]; rfl), Or.inl ⟨(by rw [upd_ne (by decide)]; exact h12), hb, (by simp only [upd_ne (L := L) (show (0 : Nat) ≠ 1 by decide), upd_ne (L := L) (show (5 : Nat) ≠ 1 by decide), upd_ne (L := L) (show (10 : Nat) ≠ 1 by decide), upd_ne (L := L) (show (12 : Nat) ≠ 1 by decide), updV_ne (xs := xs) (show (0 : Nat) ≠ 1 by decide), updV_ne (xs := xs) (show (5 : Nat) ≠ 1 by decide), updV_ne (xs := xs) (show (10 : Nat) ≠ 1 by decide)]; exact H0.out), (by simp only [upd_ne (L := L) (show (0 : Nat) ≠ 1 by decide), upd_ne (L := L) (show (5 : Nat) ≠ 1 by decide), upd_ne (L := L) (show (10 : Nat) ≠ 1 by decide), upd_ne (L := L) (show (12 : Nat) ≠ 1 by decide), updV_ne (xs := xs) (show (0 : Nat) ≠ 1 by decide), updV_ne (xs := xs) (show (5 : Nat) ≠ 1 by decide), updV_ne (xs := xs) (show (10 : Nat) ≠ 1 by decide)]; exact H1.out), (by simp only [upd_ne (L := L) (show (0 : Nat) ≠ 1 by decide), upd_ne (L := L) (show (5 : Nat) ≠ 1 by decide), upd_ne (L := L) (show (10 : Nat) ≠ 1 by decide), upd_ne (L := L) (show (12 : Nat) ≠ 1 by decide), updV_ne (xs := xs) (show (0 : Nat) ≠ 1 by decide), updV_ne (xs := xs) (show (5 : Nat) ≠ 1 by decide), updV_ne (xs := xs) (show (10 : Nat) ≠ 1 by decide)]; exact H2.out)⟩⟩
          focus
            obtain ⟨d1, _⟩ := hd
            obtain ⟨ρ, hρ⟩ : ∃ ρ, a'.eval = ρ := ⟨_, rfl⟩
            have hcst : ∀ v, ρ (.const v) = v := fun v => (congrFun hρ (.const v)).symm
            have v1 : ρ (.tmp 42) = .pointer (some ⟨b0 + 1, 8, none⟩) := (congrFun hρ (.tmp 42)).symm.trans ((HF.out.ev 1 rfl d1).trans (HVA.out 1 _ (by rw [HVV.out]; rfl) d1))
            rw [if_pos (by simp [Region.wanted])]
            unfold Oper.wp
            rw [hρ]
            clear hρ
            rcases hw with ⟨h12, hb, h0, h1, h2⟩ | ⟨_, h, _⟩
            rotate_left
            · have := h 2 (by decide); rw [HLI.out] at this; cases this
            have H0 := Lib.hid h0
            have H1 := Lib.hid h1
            have H2 := Lib.hid h2
            clear h0 h1 h2
            have k8 := (HXK.out _ (HB14.out.trans (hb.mono HB14.out.size))).2.2.2.2.2.2.2.2.1
            go_simp
            exact hK.out _ _ ⟨HVA.out.set (i := 2) (by rw [HVV.out]; rfl), Or.inl ⟨(by rw [upd_ne (by decide)]; exact h12), hb, (by simp only [upd_ne (L := L) (show (0 : Nat) ≠ 2 by decide), upd_ne (L := L) (show (5 : Nat) ≠ 2 by decide), upd_ne (L := L) (show (10 : Nat) ≠ 2 by decide), upd_ne (L := L) (show (12 : Nat) ≠ 2 by decide), updV_ne (xs := xs) (show (0 : Nat) ≠ 2 by decide), updV_ne (xs := xs) (show (5 : Nat) ≠ 2 by decide), updV_ne (xs := xs) (show (10 : Nat) ≠ 2 by decide)]; exact H0.out), (by simp only [upd_ne (L := L) (show (0 : Nat) ≠ 2 by decide), upd_ne (L := L) (show (5 : Nat) ≠ 2 by decide), upd_ne (L := L) (show (10 : Nat) ≠ 2 by decide), upd_ne (L := L) (show (12 : Nat) ≠ 2 by decide), updV_ne (xs := xs) (show (0 : Nat) ≠ 2 by decide), updV_ne (xs := xs) (show (5 : Nat) ≠ 2 by decide), updV_ne (xs := xs) (show (10 : Nat) ≠ 2 by decide)]; exact H1.out), (by simp only [upd_ne (L := L) (show (0 : Nat) ≠ 2 by decide), upd_ne (L := L) (show (5 : Nat) ≠ 2 by decide), upd_ne (L := L) (show (10 : Nat) ≠ 2 by decide), upd_ne (L := L) (show (12 : Nat) ≠ 2 by decide), updV_ne (xs := xs) (show (0 : Nat) ≠ 2 by decide), updV_ne (xs := xs) (show (5 : Nat) ≠ 2 by decide), updV_ne (xs := xs) (show (10 : Nat) ≠ 2 by decide)]; exact H2.out)⟩⟩
          focus
            clear hd
            obtain ⟨ρ, hρ⟩ : ∃ ρ, a'.eval = ρ := ⟨_, rfl⟩
            have hcst : ∀ v, ρ (.const v) = v := fun v => (congrFun hρ (.const v)).symm
            have l7 : ρ (.tmp 7) = .int .i64 k := (congrFun hρ (.tmp 7)).symm.trans (HF.out.lo 7 rfl)
            rw [if_pos (by simp [Region.wanted])]
            unfold Oper.wp
            rw [hρ]
            clear hρ
            rcases hw with ⟨h12, hb, h0, h1, h2⟩ | ⟨_, h, _⟩
            rotate_left
            · have := h 3 (by decide); rw [HLI.out] at this; cases this
            have H0 := Lib.hid h0
            have H1 := Lib.hid h1
            have H2 := Lib.hid h2
            clear h0 h1 h2
            go_simp
            exact hK.out _ _ ⟨HVA.out.set (i := 3) (by rw [HVV.out]; rfl), Or.inl ⟨(by rw [upd_ne (by decide)]; exact h12), hb, (by simp only [upd_ne (L := L) (show (0 : Nat) ≠ 3 by decide), upd_ne (L := L) (show (5 : Nat) ≠ 3 by decide), upd_ne (L := L) (show (10 : Nat) ≠ 3 by decide), upd_ne (L := L) (show (12 : Nat) ≠ 3 by decide), updV_ne (xs := xs) (show (0 : Nat) ≠ 3 by decide), updV_ne (xs := xs) (show (5 : Nat) ≠ 3 by decide), updV_ne (xs := xs) (show (10 : Nat) ≠ 3 by decide)]; exact H0.out), (by simp only [upd_ne (L := L) (show (0 : Nat) ≠ 3 by decide), upd_ne (L := L) (show (5 : Nat) ≠ 3 by decide), upd_ne (L := L) (show (10 : Nat) ≠ 3 by decide), upd_ne (L := L) (show (12 : Nat) ≠ 3 by decide), updV_ne (xs := xs) (show (0 : Nat) ≠ 3 by decide), updV_ne (xs := xs) (show (5 : Nat) ≠ 3 by decide), updV_ne (xs := xs) (show (10 : Nat) ≠ 3 by decide)]; exact H1.out), (by simp only [upd_ne (L := L) (show (0 : Nat) ≠ 3 by decide), upd_ne (L := L) (show (5 : Nat) ≠ 3 by decide), upd_ne (L := L) (show (10 : Nat) ≠ 3 by decide), upd_ne (L := L) (show (12 : Nat) ≠ 3 by decide), updV_ne (xs := xs) (show (0 : Nat) ≠ 3 by decide), updV_ne (xs := xs) (show (5 : Nat) ≠ 3 by decide), updV_ne (xs := xs) (show (10 : Nat) ≠ 3 by decide)]; exact H2.out)⟩⟩
          focus
            obtain ⟨d2, d3, _⟩ := hd
            obtain ⟨ρ, hρ⟩ : ∃ ρ, a'.eval = ρ := ⟨_, rfl⟩
            have hcst : ∀ v, ρ (.const v) = v := fun v => (congrFun hρ (.const v)).symm
            have v2 : ρ (.tmp 43) = .slice (some ⟨bs, oo, none⟩) m ca := (congrFun hρ (.tmp 43)).symm.trans ((HF.out.ev 2 rfl d2).trans (HVA.out 2 _ (by rw [HVV.out]; rfl) d2))
            have v3 : ρ (.tmp 44) = .int .i64 k := (congrFun hρ (.tmp 44)).symm.trans ((HF.out.ev 3 rfl d3).trans (HVA.out 3 _ (by rw [HVV.out]; rfl) d3))
            rw [if_pos (by simp [Region.wanted])]
            unfold Oper.wp
            rw [hρ]
            clear hρ
            rcases hw with ⟨h12, hb, h0, h1, h2⟩ | ⟨_, h, _⟩
            rotate_left
            · have := h 4 (by decide); rw [HLI.out] at this; cases this
            have H0 := Lib.hid h0
            have H1 := Lib.hid h1
            have H2 := Lib.hid h2
            clear h0 h1 h2
            go_simp
            exact hK.out _ _ ⟨HVA.out.set (i := 4) (by rw [HVV.out]; rfl), Or.inl ⟨(by rw [upd_ne (by decide)]; exact h12), hb, (by simp only [upd_ne (L := L) (show (0 : Nat) ≠ 4 by decide), upd_ne (L := L) (show (5 : Nat) ≠ 4 by decide), upd_ne (L := L) (show (10 : Nat) ≠ 4 by decide), upd_ne (L := L) (show (12 : Nat) ≠ 4 by decide), updV_ne (xs := xs) (show (0 : Nat) ≠ 4 by decide), updV_ne (xs := xs) (show (5 : Nat) ≠ 4 by decide), updV_ne (xs := xs) (show (10 : Nat) ≠ 4 by decide)]; exact H0.out), (by simp only [upd_ne (L := L) (show (0 : Nat) ≠ 4 by decide), upd_ne (L := L) (show (5 : Nat) ≠ 4 by decide), upd_ne (L := L) (show (10 : Nat) ≠ 4 by decide), upd_ne (L := L) (show (12 : Nat) ≠ 4 by decide), updV_ne (xs := xs) (show (0 : Nat) ≠ 4 by decide), updV_ne (xs := xs) (show (5 : Nat) ≠ 4 by decide), updV_ne (xs := xs) (show (10 : Nat) ≠ 4 by decide)]; exact H1.out), (by simp only [upd_ne (L := L) (show (0 : Nat) ≠ 4 by decide), upd_ne (L := L) (show (5 : Nat) ≠ 4 by decide), upd_ne (L := L) (show (10 : Nat) ≠ 4 by decide), upd_ne (L := L) (show (12 : Nat) ≠ 4 by decide), updV_ne (xs := xs) (show (0 : Nat) ≠ 4 by decide), updV_ne (xs := xs) (show (5 : Nat) ≠ 4 by decide), updV_ne (xs := xs) (show (10 : Nat) ≠ 4 by decide)]; exact H2.out)⟩⟩
          focus
            obtain ⟨d0, d4, _⟩ := hd
            have v0 : a'.eval (.tmp 41) = xs 0 := HF.out.ev 0 rfl d0
            have v4 : a'.eval (.tmp 45) = .slice (some ⟨bs, oo + k, none⟩) (m - k) (ca - k) := (HF.out.ev 4 rfl d4).trans (HVA.out 4 _ (by rw [HVV.out]; rfl) d4)
            rw [if_pos (by simp [Region.wanted])]
            rcases hw with ⟨h12, hb, h0, h1, h2⟩ | ⟨_, h, _⟩
            rotate_left
            · have := h 5 (by decide); rw [HLI.out] at this; cases this
            have H0 := Lib.hid h0
            have H1 := Lib.hid h1
            have H2 := Lib.hid h2
            clear h0 h1 h2
            refine wp_append_recs strK (by decide) str_inf Try.underlying22 rfl (by decide) (by decide) (.tmp 41) (.tmp 45) rfl (C := w4.heap.size) v0 (H0.out d0 HLI.out) v4 (HSD.out _ hb) (by simp only [List.length_nil]; omega) hb.size ?_
            intro v5 w5 ho5 hg5 hat5
            have HO5 := Lib.hid ho5
            have HG5 := Lib.hid hg5
            have HAT5 := Lib.hid hat5
            clear ho5 hg5 hat5
            exact hK.out _ _ ⟨HVA.out.free (i := 5) (by rw [HVV.out]; rfl) _, Or.inl ⟨(by rw [upd_ne (by decide)]; exact h12), hb.grown HG5.out hb.size (fun q e => ((H0.out d0 HLI.out).lt q e).1), (fun _ h => by rw [upd_self] at h; cases h), (fun _ => ⟨by rw [upd_ne (by decide)]; exact d0, fun _ => by rw [updV_self]; exact HO5.out⟩), (fun h => by simp only [upd_ne (L := L) (show (0 : Nat) ≠ 5 by decide), upd_ne (L := L) (show (10 : Nat) ≠ 5 by decide), upd_ne (L := L) (show (12 : Nat) ≠ 5 by decide), updV_ne (xs := xs) (show (0 : Nat) ≠ 5 by decide), updV_ne (xs := xs) (show (10 : Nat) ≠ 5 by decide)] at h; have := (H2.out h).1; rw [HLI.out] at this; cases this)⟩⟩
          focus
            clear hd
            obtain ⟨ρ, hρ⟩ : ∃ ρ, a'.eval = ρ := ⟨_, rfl⟩
            have hcst : ∀ v, ρ (.const v) = v := fun v => (congrFun hρ (.const v)).symm
            have l4 : ρ (.tmp 4) = .pointer (some ⟨b0 + 1, 0, none⟩) := (congrFun hρ (.tmp 4)).symm.trans (HF.out.lo 4 rfl)
            rw [if_pos (by simp [Region.wanted])]
            unfold Oper.wp
            rw [hρ]
            clear hρ
            rcases hw with ⟨h12, hb, h0, h1, h2⟩ | ⟨_, h, _⟩
            rotate_left
            · have := h 6 (by decide); rw [HLI.out] at this; cases this
            have H0 := Lib.hid h0
            have H1 := Lib.hid h1
            have H2 := Lib.hid h2
            clear h0 h1 h2
            go_simp
            exact hK.out _ _ ⟨HVA.out.set (i := 6) (by rw [HVV.out]; rfl), Or.inl ⟨(by rw [upd_ne (by decide)]; exact h12), hb, (by simp only [upd_ne (L := L) (show (0 : Nat) ≠ 6 by decide), upd_ne (L := L) (show (5 : Nat) ≠ 6 by decide), upd_ne (L := L) (show (10 : Nat) ≠ 6 by decide), upd_ne (L := L) (show (12 : Nat) ≠ 6 by decide), updV_ne (xs := xs) (show (0 : Nat) ≠ 6 by decide), updV_ne (xs := xs) (show (5 : Nat) ≠ 6 by decide), updV_ne (xs := xs) (show (10 : Nat) ≠ 6 by decide)]; exact H0.out), (by simp only [upd_ne (L := L) (show (0 : Nat) ≠ 6 by decide), upd_ne (L := L) (show (5 : Nat) ≠ 6 by decide), upd_ne (L := L) (show (10 : Nat) ≠ 6 by decide), upd_ne (L := L) (show (12 : Nat) ≠ 6 by decide), updV_ne (xs := xs) (show (0 : Nat) ≠ 6 by decide), updV_ne (xs := xs) (show (5 : Nat) ≠ 6 by decide), updV_ne (xs := xs) (show (10 : Nat) ≠ 6 by decide)]; exact H1.out), (by simp only [upd_ne (L := L) (show (0 : Nat) ≠ 6 by decide), upd_ne (L := L) (show (5 : Nat) ≠ 6 by decide), upd_ne (L := L) (show (10 : Nat) ≠ 6 by decide), upd_ne (L := L) (show (12 : Nat) ≠ 6 by decide), updV_ne (xs := xs) (show (0 : Nat) ≠ 6 by decide), updV_ne (xs := xs) (show (5 : Nat) ≠ 6 by decide), updV_ne (xs := xs) (show (10 : Nat) ≠ 6 by decide)]; exact H2.out)⟩⟩
          focus
            obtain ⟨d6, _⟩ := hd
            obtain ⟨ρ, hρ⟩ : ∃ ρ, a'.eval = ρ := ⟨_, rfl⟩
            have hcst : ∀ v, ρ (.const v) = v := fun v => (congrFun hρ (.const v)).symm
            have v6 : ρ (.tmp 47) = .pointer (some ⟨b0 + 1, 8, none⟩) := (congrFun hρ (.tmp 47)).symm.trans ((HF.out.ev 6 rfl d6).trans (HVA.out 6 _ (by rw [HVV.out]; rfl) d6))
            rw [if_pos (by simp [Region.wanted])]
            unfold Oper.wp
            rw [hρ]
            clear hρ
            rcases hw with ⟨h12, hb, h0, h1, h2⟩ | ⟨_, h, _⟩
            rotate_left
            · have := h 7 (by decide); rw [HLI.out] at this; cases this
            have H0 := Lib.hid h0
            have H1 := Lib.hid h1
            have H2 := Lib.hid h2
            clear h0 h1 h2
            have k8 := (HXK.out _ (HB14.out.trans (hb.mono HB14.out.size))).2.2.2.2.2.2.2.2.1
            go_simp
            exact hK.out _ _ ⟨HVA.out.set (i := 7) (by rw [HVV.out]; rfl), Or.inl ⟨(by rw [upd_ne (by decide)]; exact h12), hb, (by simp only [upd_ne (L := L) (show (0 : Nat) ≠ 7 by decide), upd_ne (L := L) (show (5 : Nat) ≠ 7 by decide), upd_ne (L := L) (show (10 : Nat) ≠ 7 by decide), upd_ne (L := L) (show (12 : Nat) ≠ 7 by decide), updV_ne (xs := xs) (show (0 : Nat) ≠ 7 by decide), updV_ne (xs := xs) (show (5 : Nat) ≠ 7 by decide), updV_ne (xs := xs) (show (10 : Nat) ≠ 7 by decide)]; exact H0.out), (by simp only [upd_ne (L := L) (show (0 : Nat) ≠ 7 by decide), upd_ne (L := L) (show (5 : Nat) ≠ 7 by decide), upd_ne (L := L) (show (10 : Nat) ≠ 7 by decide), upd_ne (L := L) (show (12 : Nat) ≠ 7 by decide), updV_ne (xs := xs) (show (0 : Nat) ≠ 7 by decide), updV_ne (xs := xs) (show (5 : Nat) ≠ 7 by decide), updV_ne (xs := xs) (show (10 : Nat) ≠ 7 by decide)]; exact H1.out), (by simp only [upd_ne (L := L) (show (0 : Nat) ≠ 7 by decide), upd_ne (L := L) (show (5 : Nat) ≠ 7 by decide), upd_ne (L := L) (show (10 : Nat) ≠ 7 by decide), upd_ne (L := L) (show (12 : Nat) ≠ 7 by decide), updV_ne (xs := xs) (show (0 : Nat) ≠ 7 by decide), updV_ne (xs := xs) (show (5 : Nat) ≠ 7 by decide), updV_ne (xs := xs) (show (10 : Nat) ≠ 7 by decide)]; exact H2.out)⟩⟩
          focus
            clear hd
            obtain ⟨ρ, hρ⟩ : ∃ ρ, a'.eval = ρ := ⟨_, rfl⟩
            have hcst : ∀ v, ρ (.const v) = v := fun v => (congrFun hρ (.const v)).symm
            have l7 : ρ (.tmp 7) = .int .i64 k := (congrFun hρ (.tmp 7)).symm.trans (HF.out.lo 7 rfl)
            rw [if_pos (by simp [Region.wanted])]
            unfold Oper.wp
            rw [hρ]
            clear hρ
            rcases hw with ⟨h12, hb, h0, h1, h2⟩ | ⟨_, h, _⟩
            rotate_left
            · have := h 8 (by decide); rw [HLI.out] at this; cases this
            have H0 := Lib.hid h0
            have H1 := Lib.hid h1
            have H2 := Lib.hid h2
            clear h0 h1 h2
            go_simp
            exact hK.out _ _ ⟨HVA.out.set (i := 8) (by rw [HVV.out]; rfl), Or.inl ⟨(by rw [upd_ne (by decide)]; exact h12), hb, (by simp only [upd_ne (L := L) (show (0 : Nat) ≠ 8 by decide), upd_ne (L := L) (show (5 : Nat) ≠ 8 by decide), upd_ne (L := L) (show (10 : Nat) ≠ 8 by decide), upd_ne (L := L) (show (12 : Nat) ≠ 8 by decide), updV_ne (xs := xs) (show (0 : Nat) ≠ 8 by decide), updV_ne (xs := xs) (show (5 : Nat) ≠ 8 by decide), updV_ne (xs := xs) (show (10 : Nat) ≠ 8 by decide)]; exact H0.out), (by simp only [upd_ne (L := L) (show (0 : Nat) ≠ 8 by decide), upd_ne (L := L) (show (5 : Nat) ≠ 8 by decide), upd_ne (L := L) (show (10 : Nat) ≠ 8 by decide), upd_ne (L := L) (show (12 : Nat) ≠ 8 by decide), updV_ne (xs := xs) (show (0 : Nat) ≠ 8 by decide), updV_ne (xs := xs) (show (5 : Nat) ≠ 8 by decide), updV_ne (xs := xs) (show (10 : Nat) ≠ 8 by decide)]; exact H1.out), (by simp only [upd_ne (L := L) (show (0 : Nat) ≠ 8 by decide), upd_ne (L := L) (show (5 : Nat) ≠ 8 by decide), upd_ne (L := L) (show (10 : Nat) ≠ 8 by decide), upd_ne (L := L) (show (12 : Nat) ≠ 8 by decide), updV_ne (xs := xs) (show (0 : Nat) ≠ 8 by decide), updV_ne (xs := xs) (show (5 : Nat) ≠ 8 by decide), updV_ne (xs := xs) (show (10 : Nat) ≠ 8 by decide)]; exact H2.out)⟩⟩
          focus
            obtain ⟨d7, d8, _⟩ := hd
            obtain ⟨ρ, hρ⟩ : ∃ ρ, a'.eval = ρ := ⟨_, rfl⟩
            have hcst : ∀ v, ρ (.const v) = v := fun v => (congrFun hρ (.const v)).symm
            have v7 : ρ (.tmp 48) = .slice (some ⟨bs, oo, none⟩) m ca := (congrFun hρ (.tmp 48)).symm.trans ((HF.out.ev 7 rfl d7).trans (HVA.out 7 _ (by rw [HVV.out]; rfl) d7))
            have v8 : ρ (.tmp 49) = .int .i64 k := (congrFun hρ (.tmp 49)).symm.trans ((HF.out.ev 8 rfl d8).trans (HVA.out 8 _ (by rw [HVV.out]; rfl) d8))
            rw [if_pos (by simp [Region.wanted])]
            unfold Oper.wp
            rw [hρ]
            clear hρ
            rcases hw with ⟨h12, hb, h0, h1, h2⟩ | ⟨_, h, _⟩
            rotate_left
            · have := h 9 (by decide); rw [HLI.out] at this; cases this
            have H0 := Lib.hid h0
            have H1 := Lib.hid h1
            have H2 := Lib.hid h2
            clear h0 h1 h2
            go_simp
            exact hK.out _ _ ⟨HVA.out.set (i := 9) (by rw [HVV.out]; rfl), Or.inl ⟨(by rw [upd_ne (by decide)]; exact h12), hb, (by simp only [upd_ne (L := L) (show (0 : Nat) ≠ 9 by decide), upd_ne (L := L) (show (5 : Nat) ≠ 9 by decide), upd_ne (L := L) (show (10 : Nat) ≠ 9 by decide), upd_ne (L := L) (show (12 : Nat) ≠ 9 by decide), updV_ne (xs := xs) (show (0 : Nat) ≠ 9 by decide), updV_ne (xs := xs) (show (5 : Nat) ≠ 9 by decide), updV_ne (xs := xs) (show (10 : Nat) ≠ 9 by decide)]; exact H0.out), (by simp only [upd_ne (L := L) (show (0 : Nat) ≠ 9 by decide), upd_ne (L := L) (show (5 : Nat) ≠ 9 by decide), upd_ne (L := L) (show (10 : Nat) ≠ 9 by decide), upd_ne (L := L) (show (12 : Nat) ≠ 9 by decide), updV_ne (xs := xs) (show (0 : Nat) ≠ 9 by decide), updV_ne (xs := xs) (show (5 : Nat) ≠ 9 by decide), updV_ne (xs := xs) (show (10 : Nat) ≠ 9 by decide)]; exact H1.out), (by simp only [upd_ne (L := L) (show (0 : Nat) ≠ 9 by decide), upd_ne (L := L) (show (5 : Nat) ≠ 9 by decide), upd_ne (L := L) (show (10 : Nat) ≠ 9 by decide), upd_ne (L := L) (show (12 : Nat) ≠ 9 by decide), updV_ne (xs := xs) (show (0 : Nat) ≠ 9 by decide), updV_ne (xs := xs) (show (5 : Nat) ≠ 9 by decide), updV_ne (xs := xs) (show (10 : Nat) ≠ 9 by decide)]; exact H2.out)⟩⟩
          focus
            obtain ⟨d5, d9, _, _⟩ := hd
            have v5 : a'.eval (.tmp 46) = xs 5 := HF.out.ev 5 rfl d5
            have v9 : a'.eval (.tmp 50) = .slice (some ⟨bs, oo, none⟩) k ca := (HF.out.ev 9 rfl d9).trans (HVA.out 9 _ (by rw [HVV.out]; rfl) d9)
            rw [if_pos (by simp [Region.wanted])]
            rcases hw with ⟨h12, hb, h0, h1, h2⟩ | ⟨_, h, _⟩
            rotate_left
            · have := h 10 (by decide); rw [HLI.out] at this; cases this
            have H0 := Lib.hid h0
            have H1 := Lib.hid h1
            have H2 := Lib.hid h2
            clear h0 h1 h2
            have hown := (H1.out d5).2 HLI.out
            refine wp_append_recs strK (by decide) str_inf Try.underlying22 rfl (by decide) (by decide) (.tmp 46) (.tmp 50) rfl (C := w4.heap.size) v5 hown v9 (HST.out _ hb) (by first | omega | (simp; omega)) hb.size ?_
            intro v5 w5 ho5 hg5 hat5
            have HO5 := Lib.hid ho5
            have HG5 := Lib.hid hg5
            clear ho5 hg5 hat5
            exact hK.out _ _ ⟨HVA.out.free (i := 10) (by rw [HVV.out]; rfl) _, Or.inl ⟨(by rw [upd_ne (by decide)]; exact h12), hb.grown HG5.out hb.size (fun q e => (hown.lt q e).1), (fun h h' => by simp only [upd_ne (L := L) (show (0 : Nat) ≠ 10 by decide), upd_ne (L := L) (show (5 : Nat) ≠ 10 by decide), upd_ne (L := L) (show (12 : Nat) ≠ 10 by decide), updV_ne (xs := xs) (show (0 : Nat) ≠ 10 by decide), updV_ne (xs := xs) (show (5 : Nat) ≠ 10 by decide)] at h h'; rw [d5] at h'; cases h'), (fun _ => ⟨by rw [upd_ne (by decide)]; exact (H1.out d5).1, fun h' => by rw [upd_self] at h'; cases h'⟩), (fun _ => ⟨by rw [upd_ne (by decide)]; exact d5, by rw [updV_self]; exact HO5.out⟩)⟩⟩
          focus
            obtain ⟨d0, d1, d2, d3, d4, d5, d6, d7, d8, d9, d10, _⟩ := hd
            obtain ⟨ρ, hρ⟩ : ∃ ρ, a'.eval = ρ := ⟨_, rfl⟩
            have hcst : ∀ v, ρ (.const v) = v := fun v => (congrFun hρ (.const v)).symm
            have l8 : ρ (.tmp 8) = .pointer (some ⟨g8, 0, none⟩) := (congrFun hρ (.tmp 8)).symm.trans (HF.out.lo 8 rfl)
            rw [if_pos (by simp [Region.wanted])]
            unfold Oper.wp
            rw [hρ]
            clear hρ
            rcases hw with ⟨h12, hb, h0, h1, h2⟩ | ⟨_, h, _⟩
            rotate_left
            · have := h 11 (by decide); rw [HLI.out] at this; cases this
            have H0 := Lib.hid h0
            have H1 := Lib.hid h1
            have H2 := Lib.hid h2
            clear h0 h1 h2
            go_simp
            exact hK.out _ _ ⟨HVA.out.set (i := 11) (by rw [HVV.out]; rfl), Or.inl ⟨(by rw [upd_ne (by decide)]; exact h12), hb, (by simp only [upd_ne (L := L) (show (0 : Nat) ≠ 11 by decide), upd_ne (L := L) (show (5 : Nat) ≠ 11 by decide), upd_ne (L := L) (show (10 : Nat) ≠ 11 by decide), upd_ne (L := L) (show (12 : Nat) ≠ 11 by decide), updV_ne (xs := xs) (show (0 : Nat) ≠ 11 by decide), updV_ne (xs := xs) (show (5 : Nat) ≠ 11 by decide), updV_ne (xs := xs) (show (10 : Nat) ≠ 11 by decide)]; exact H0.out), (by simp only [upd_ne (L := L) (show (0 : Nat) ≠ 11 by decide), upd_ne (L := L) (show (5 : Nat) ≠ 11 by decide), upd_ne (L := L) (show (10 : Nat) ≠ 11 by decide), upd_ne (L := L) (show (12 : Nat) ≠ 11 by decide), updV_ne (xs := xs) (show (0 : Nat) ≠ 11 by decide), updV_ne (xs := xs) (show (5 : Nat) ≠ 11 by decide), updV_ne (xs := xs) (show (10 : Nat) ≠ 11 by decide)]; exact H1.out), (by simp only [upd_ne (L := L) (show (0 : Nat) ≠ 11 by decide), upd_ne (L := L) (show (5 : Nat) ≠ 11 by decide), upd_ne (L := L) (show (10 : Nat) ≠ 11 by decide), upd_ne (L := L) (show (12 : Nat) ≠ 11 by decide), updV_ne (xs := xs) (show (0 : Nat) ≠ 11 by decide), updV_ne (xs := xs) (show (5 : Nat) ≠ 11 by decide), updV_ne (xs := xs) (show (10 : Nat) ≠ 11 by decide)]; exact H2.out)⟩⟩
          focus
            obtain ⟨d11, d10, _, d0, d1, d2, d3, d4, d5, d6, d7, d8, d9, _, _⟩ := hd
            obtain ⟨ρ, hρ⟩ : ∃ ρ, a'.eval = ρ := ⟨_, rfl⟩
            have hcst : ∀ v, ρ (.const v) = v := fun v => (congrFun hρ (.const v)).symm
            have v11 : ρ (.tmp 52) = .pointer (some ⟨g8, 8, none⟩) := (congrFun hρ (.tmp 52)).symm.trans ((HF.out.ev 11 rfl d11).trans (HVA.out 11 _ (by rw [HVV.out]; rfl) d11))
            have v10 : ρ (.tmp 51) = xs 10 := (congrFun hρ (.tmp 51)).symm.trans (HF.out.ev 10 rfl d10)
            rw [if_pos (by simp [Region.wanted])]
            unfold Oper.wp
            rw [hρ]
            clear hρ
            rcases hw with ⟨h12, hb, h0, h1, h2⟩ | ⟨h12, _⟩
            rotate_left
            · rw [HLI.out] at h12; cases h12
            obtain ⟨a8, n8, c8, e8⟩ := OwnRecs.form' (h2 d10).2
            have hown := (h2 d10).2
            rw [e8] at hown v10
            have hcc := HC8.out.ext hb
            have c8' := hcc.cell 8
            have f8 := hcc.free 8
            simp at c8'
            have HOW := Lib.hid hown
            clear hown hcc
            go_simp
            exact hK.out _ _ ⟨HVA.out.free (i := 12) (by rw [HVV.out]; rfl) undef, Or.inr ⟨upd_self _ _, fun j hj => by
              rw [upd_ne (by omega)]
              match j, hj with
              | 0, _ => exact d0
              | 1, _ => exact d1
              | 2, _ => exact d2
              | 3, _ => exact d3
              | 4, _ => exact d4
              | 5, _ => exact d5
              | 6, _ => exact d6
              | 7, _ => exact d7
              | 8, _ => exact d8
              | 9, _ => exact d9
              | 10, _ => exact d10
              | 11, _ => exact d11, w', a8, n8, c8, rfl, hb, HOW.out⟩⟩
        focus
          intro L w' xs hL hJ
          obtain ⟨hv, hw⟩ := hJ
          have e1 : xs 1 = .pointer (some ⟨b0 + 1, 8, none⟩) := hv 1 _ (by rw [HVV.out]; rfl) (hL 1 (by decide))
          have e2 : xs 2 = .slice (some ⟨bs, oo, none⟩) m ca := hv 2 _ (by rw [HVV.out]; rfl) (hL 2 (by decide))
          have e3 : xs 3 = .int .i64 k := hv 3 _ (by rw [HVV.out]; rfl) (hL 3 (by decide))
          have e4 : xs 4 = .slice (some ⟨bs, oo + k, none⟩) (m - k) (ca - k) := hv 4 _ (by rw [HVV.out]; rfl) (hL 4 (by decide))
          have e6 : xs 6 = .pointer (some ⟨b0 + 1, 8, none⟩) := hv 6 _ (by rw [HVV.out]; rfl) (hL 6 (by decide))
          have e7 : xs 7 = .slice (some ⟨bs, oo, none⟩) m ca := hv 7 _ (by rw [HVV.out]; rfl) (hL 7 (by decide))
          have e8 : xs 8 = .int .i64 k := hv 8 _ (by rw [HVV.out]; rfl) (hL 8 (by decide))
          have e9 : xs 9 = .slice (some ⟨bs, oo, none⟩) k ca := hv 9 _ (by rw [HVV.out]; rfl) (hL 9 (by decide))
          have e11 : xs 11 = .pointer (some ⟨g8, 8, none⟩) := hv 11 _ (by rw [HVV.out]; rfl) (hL 11 (by decide))
          simp only [putGo, Act.put, List.setIfInBounds_toArray, List.set_cons_zero, List.set_cons_succ, e1, e2, e3, e4, e6, e7, e8, e9, e11]
          clear hv e1 e2 e3 e4 e6 e7 e8 e9 e11
          rcases hw with ⟨h12, _⟩ | ⟨_, _, w8, a8, n8, c8, hw, hb8, ho8⟩
          · rw [hL 12 (by decide)] at h12; cases h12
          rw [hw]
          clear hw hL
          have hb38 := HB4.out.trans (hb8.mono HB4.out.size)
          have hx8 := ((HC8.out.ext hb8).set 8 (.slice a8 n8 c8))
          simp only [List.setIfInBounds_toArray, List.set_cons_zero, List.set_cons_succ] at hx8
          have hgr := grown_setCell w8 ⟨g8, 8, none⟩ (.slice a8 n8 c8)
          obtain ⟨w5, hw5⟩ : ∃ W, w8.setCell ⟨g8, 8, none⟩ (.slice a8 n8 c8) = W := ⟨_, rfl⟩
          rw [hw5] at hx8 hgr
          rw [hw5]
          have hb35 : Below W3.heap.size W3 w5 := hb38.grown hgr (by have := hb38.size; omega) (fun q e => by have e2 : g8 = q := Option.some.inj e; omega)
          have HB35 := Lib.hid hb35
          have HD8 := Lib.hid hx8
          have HD9 := Lib.hid ((HC9.out.ext hb8).grown hgr (fun e => hne89 (Option.some.inj e).symm))
          have HOA : Hid (OwnStrs w4.heap.size w5 (.slice a8 n8 c8) (AD ++ AT)) := Lib.hid (by
            have hlt := ho8.lt
            obtain ⟨vals, h1, h2, h3, h4⟩ := ho8
            exact ⟨vals, h1.kept hgr (.inr (fun e => by have := (hlt g8 e).1; omega)), h2, h3, h4⟩)
          have HB45 : Hid (w4.heap.size ≤ w5.heap.size) := Lib.hid (by have h1 := hb8.size; have h2 := hgr.size; omega)
          have HB15 : Hid (Below W1.heap.size W1 w5) := Lib.hid (HB13.out.trans (hb35.mono HB13.out.size))
          clear hw5 hb38 hx8 hgr hb35 hb8 ho8 HC8 HC9 HB4 HB14 HS4 HSD HST
          have HSB : Hid (∀ W, Below w5.heap.size w5 W → SrcRecs 1 strR ([] : Str) w5.heap.size W (.slice (some ⟨bs, oo, none⟩) m ca) x.against) := Lib.hid fun W hW => IsRecs.src strK (by decide) (IsRecs.below strK (HSK.out w5 HB15.out) hW (Nat.le_refl _)) (Nat.le_refl _)
          obtain ⟨sk, hsk⟩ : ∃ s, strAt x.against k = s := ⟨_, rfl⟩
          have HSKE := Lib.hid hsk
          have HSKL : Hid (sk.length ≤ 140737488351232) := Lib.hid (by rw [← hsk]; exact gsl)
          have HGK : Hid (∀ W, Below w5.heap.size w5 W → W.cell? ⟨bs, oo + k, none⟩ = some (strV sk)) := Lib.hid fun W hW => by
            rw [← hsk]
            exact (hW.cell (p := ⟨bs, oo + k, none⟩) (by have := HB35.out.size; show bs < _; omega)).trans ((HB35.out.cell (p := ⟨bs, oo + k, none⟩) bbs).trans HGS.out)
          clear hsk
          have hxl : x.against.length ≤ 40 := by omega
          have hg95 := HD9.out.lt
          go_upto_region 8 with fail
          obtain ⟨V, hV⟩ : ∃ V : List (Option Value), V = [none, some (.pointer (some ⟨b0 + 1, 8, none⟩)), some (.slice (some ⟨bs, oo, none⟩) m ca), none, some (.pointer (some ⟨b0 + 1, 8, none⟩)), some (.slice (some ⟨bs, oo, none⟩) m ca), some (.int .i64 k), some (.pointer (some ⟨bs, oo + k, none⟩)), some (strV sk), none, none, some (.pointer (some ⟨g9, 8, none⟩)), none] := ⟨_, rfl⟩
          have HVV := Lib.hid hV
          clear hV
          refine wp_region_V [some 53, some 54, some 55, some 56, some 57, some 58, some 59, some 60, some 61, some 62, some 63, some 64, none] (fun L w' xs => ValsAt V L xs ∧ ((L 12 = false ∧ Below w5.heap.size w5 w' ∧ (L 0 = true → L 3 = false → OwnStrs w5.heap.size w' (xs 0) []) ∧ (L 3 = true → L 0 = true ∧ (L 10 = false → OwnStrs w5.heap.size w' (xs 3) x.against)) ∧ (L 10 = true → L 3 = true ∧ L 9 = true ∧ OwnStrs w5.heap.size w' (xs 10) (x.against ++ [sk])) ∧ (L 9 = true → ∃ g, xs 9 = .slice (some ⟨g, 0, none⟩) 1 1 ∧ g < w'.heap.size ∧ (L 10 = false → w'.cell? ⟨g, 0, none⟩ = some (strV sk) ∧ (L 0 = true → L 3 = false → (xs 0).ownBlock ≠ some g) ∧ (L 3 = true → (xs 3).ownBlock ≠ some g)))) ∨ (L 12 = true ∧ (∀ j, j < 12 → L j = true) ∧ ∃ w8 a n c, w' = w8.setCell ⟨g9, 8, none⟩ (.slice a n c) ∧ Below w5.heap.size w5 w8 ∧ OwnStrs w5.heap.size w8 (.slice a n c) (x.against ++ [sk])))) (by kernel_rfl) (by kernel_rfl) (by rfl) (by rfl) (by rfl) ?_ ?_ ?_
          focus
            exact fun xs => ⟨ValsAt.none _ _, Or.inl ⟨rfl, (Below.refl _ _).drew, (fun h _ => by cases h), (fun h => by cases h), (fun h => by cases h), (fun h => by cases h)⟩⟩
          focus
            refine ⟨?_, ?_, ?_, ?_, ?_, ?_, ?_, ?_, ?_, ?_, ?_, ?_, ?_, trivial⟩
            all_goals
              intro L a' w' xs hi hd hf hJ K hK
              obtain ⟨hv, hw⟩ := hJ
              have HF := Lib.hid hf
              have HVA := Lib.hid hv
              have HLI := Lib.hid hi
              clear hf hv hi
            focus
              clear hd
              obtain ⟨ρ, hρ⟩ : ∃ ρ, a'.eval = ρ := ⟨_, rfl⟩
              have hcst : ∀ v, ρ (.const v) = v := fun v => (congrFun hρ (.const v)).symm
              rw [if_pos (by simp [Region.wanted])]
              unfold Oper.wp
              rw [hρ]
              clear hρ
              rcases hw with ⟨h12, hb, h0, h1, h2, h9⟩ | ⟨_, h, _⟩
              rotate_left
              · have := h 0 (by decide); rw [HLI.out] at this; cases this
              have H0 := Lib.hid h0
              have H1 := Lib.hid h1
              have H2 := Lib.hid h2
              have H9 := Lib.hid h9
              clear h0 h1 h2 h9
              have HBN := Lib.hid (box_below' w' (.cells #[] 9))
              have HMD := Lib.hid (OwnRecs.made (ty := 9) (k := 1) (R := strR) (L := 8796093022208) (d0 := ([] : Str)) (C := w5.heap.size) (w := w') rfl hb.size)
              go_simp
              exact hK.out _ _ ⟨HVA.out.free (i := 0) (by rw [HVV.out]; rfl) _, Or.inl ⟨(by rw [upd_ne (by decide)]; exact h12), hb.trans (HBN.out.mono hb.size), (fun _ _ => by rw [updV_self]; exact HMD.out), (fun h => by simp only [upd_ne (L := L) (show (3 : Nat) ≠ 0 by decide), upd_ne (L := L) (show (10 : Nat) ≠ 0 by decide), upd_ne (L := L) (show (12 : Nat) ≠ 0 by decide), upd_ne (L := L) (show (9 : Nat) ≠ 0 by decide), updV_ne (xs := xs) (show (3 : Nat) ≠ 0 by decide), updV_ne (xs := xs) (show (10 : Nat) ≠ 0 by decide), updV_ne (xs := xs) (show (9 : Nat) ≠ 0 by decide)] at h ⊢; have := (H1.out h).1; rw [HLI.out] at this; cases this), (fun h => by simp only [upd_ne (L := L) (show (3 : Nat) ≠ 0 by decide), upd_ne (L := L) (show (10 : Nat) ≠ 0 by decide), upd_ne (L := L) (show (12 : Nat) ≠ 0 by decide), upd_ne (L := L) (show (9 : Nat) ≠ 0 by decide), updV_ne (xs := xs) (show (3 : Nat) ≠ 0 by decide), updV_ne (xs := xs) (show (10 : Nat) ≠ 0 by decide), updV_ne (xs := xs) (show (9 : Nat) ≠ 0 by decide)] at h ⊢; exact ⟨(H2.out h).1, (H2.out h).2.1, (OwnRecs.below strK (H2.out h).2.2 HBN.out hb.size)⟩), (fun h => by
                  simp only [upd_ne (L := L) (show (3 : Nat) ≠ 0 by decide), upd_ne (L := L) (show (10 : Nat) ≠ 0 by decide), upd_ne (L := L) (show (12 : Nat) ≠ 0 by decide), upd_ne (L := L) (show (9 : Nat) ≠ 0 by decide), updV_ne (xs := xs) (show (3 : Nat) ≠ 0 by decide), updV_ne (xs := xs) (show (10 : Nat) ≠ 0 by decide), updV_ne (xs := xs) (show (9 : Nat) ≠ 0 by decide)] at h ⊢
                  obtain ⟨g', e', hg', h'⟩ := H9.out h
                  refine ⟨g', e', Nat.lt_of_lt_of_le hg' HBN.out.size, fun q => ⟨(HBN.out.cell (p := ⟨g', 0, none⟩) hg').trans (h' q).1, fun _ _ e => ?_, fun q2 => ?_⟩⟩
                  · rw [updV_self] at e
                    simp [Value.ownBlock] at e
                    omega
                  · have := (H1.out q2).1
                    rw [HLI.out] at this
                    cases this)⟩⟩
            focus
              clear hd
              obtain ⟨ρ, hρ⟩ : ∃ ρ, a'.eval = ρ := ⟨_, rfl⟩
              have hcst : ∀ v, ρ (.const v) = v := fun v => (congrFun hρ (.const v)).symm
              have l4 : ρ (.tmp 4) = .pointer (some ⟨b0 + 1, 0, none⟩) := (congrFun hρ (.tmp 4)).symm.trans (HF.out.lo 4 rfl)
              rw [if_pos (by simp [Region.wanted])]
              unfold Oper.wp
              rw [hρ]
              clear hρ
              rcases hw with ⟨h12, hb, h0, h1, h2, h9⟩ | ⟨_, h, _⟩
              rotate_left
              · have := h 1 (by decide); rw [HLI.out] at this; cases this
              have H0 := Lib.hid h0
              have H1 := Lib.hid h1
              have H2 := Lib.hid h2
              have H9 := Lib.hid h9
              clear h0 h1 h2 h9
              go_simp
              exact hK.out _ _ ⟨HVA.out.set (i := 1) (by rw [HVV.out]; rfl), Or.inl ⟨(by rw [upd_ne (by decide)]; exact h12), hb, (by simp only [upd_ne (L := L) (show (0 : Nat) ≠ 1 by decide), upd_ne (L := L) (show (3 : Nat) ≠ 1 by decide), upd_ne (L := L) (show (10 : Nat) ≠ 1 by decide), upd_ne (L := L) (show (12 : Nat) ≠ 1 by decide), upd_ne (L := L) (show (9 : Nat) ≠ 1 by decide), updV_ne (xs := xs) (show (0 : Nat) ≠ 1 by decide), updV_ne (xs := xs) (show (3 : Nat) ≠ 1 by decide), updV_ne (xs := xs) (show (10 : Nat) ≠ 1 by decide), updV_ne (xs := xs) (show (9 : Nat) ≠ 1 by decide)]; exact H0.out), (by simp only [upd_ne (L := L) (show (0 : Nat) ≠ 1 by decide), upd_ne (L := L) (show (3 : Nat) ≠ 1 by decide), upd_ne (L := L) (show (10 : Nat) ≠ 1 by decide), upd_ne (L := L) (show (12 : Nat) ≠ 1 by decide), upd_ne (L := L) (show (9 : Nat) ≠ 1 by decide), updV_ne (xs := xs) (show (0 : Nat) ≠ 1 by decide), updV_ne (xs := xs) (show (3 : Nat) ≠ 1 by decide), updV_ne (xs := xs) (show (10 : Nat) ≠ 1 by decide), updV_ne (xs := xs) (show (9 : Nat) ≠ 1 by decide)]; exact H1.out), (by simp only [upd_ne (L := L) (show (0 : Nat) ≠ 1 by decide), upd_ne (L := L) (show (3 : Nat) ≠ 1 by decide), upd_ne (L := L) (show (10 : Nat) ≠ 1 by decide), upd_ne (L := L) (show (12 : Nat) ≠ 1 by decide), upd_ne (L := L) (show (9 : Nat) ≠ 1 by decide), updV_ne (xs := xs) (show (0 : Nat) ≠ 1 by decide), updV_ne (xs := xs) (show (3 : Nat) ≠ 1 by decide), updV_ne (xs := xs) (show (10 : Nat) ≠ 1 by decide), updV_ne (xs := xs) (show (9 : Nat) ≠ 1 by decide)]; exact H2.out), (by simp only [upd_ne (L := L) (show (0 : Nat) ≠ 1 by decide), upd_ne (L := L) (show (3 : Nat) ≠ 1 by decide), upd_ne (L := L) (show (10 : Nat) ≠ 1 by decide), upd_ne (L := L) (show (12 : Nat) ≠ 1 by decide), upd_ne (L := L) (show (9 : Nat) ≠ 1 by decide), updV_ne (xs := xs) (show (0 : Nat) ≠ 1 by decide), updV_ne (xs := xs) (show (3 : Nat) ≠ 1 by decide), updV_ne (xs := xs) (show (10 : Nat) ≠ 1 by decide), updV_ne (xs := xs) (show (9 : Nat) ≠ 1 by decide)]; exact H9.out)⟩⟩
            focus
              obtain ⟨d1, _⟩ := hd
              obtain ⟨ρ, hρ⟩ : ∃ ρ, a'.eval = ρ := ⟨_, rfl⟩
              have hcst : ∀ v, ρ (.const v) = v := fun v => (congrFun hρ (.const v)).symm
              have v1 : ρ (.tmp 54) = .pointer (some ⟨b0 + 1, 8, none⟩) := (congrFun hρ (.tmp 54)).symm.trans ((HF.out.ev 1 rfl d1).trans (HVA.out 1 _ (by rw [HVV.out]; rfl) d1))
              rw [if_pos (by simp [Region.wanted])]
              unfold Oper.wp
              rw [hρ]
              clear hρ
              rcases hw with ⟨h12, hb, h0, h1, h2, h9⟩ | ⟨_, h, _⟩
              rotate_left
              · have := h 2 (by decide); rw [HLI.out] at this; cases this
              have H0 := Lib.hid h0
              have H1 := Lib.hid h1
              have H2 := Lib.hid h2
              have H9 := Lib.hid h9
              clear h0 h1 h2 h9
              have k8 := (HXK.out _ (HB15.out.trans (hb.mono HB15.out.size))).2.2.2.2.2.2.2.2.1
              go_simp
              exact hK.out _ _ ⟨HVA.out.set (i := 2) (by rw [HVV.out]; rfl), Or.inl ⟨(by rw [upd_ne (by decide)]; exact h12), hb, (by simp only [upd_ne (L := L) (show (0 : Nat) ≠ 2 by decide), upd_ne (L := L) (show (3 : Nat) ≠ 2 by decide), upd_ne (L := L) (show (10 : Nat) ≠ 2 by decide), upd_ne (L := L) (show (12 : Nat) ≠ 2 by decide), upd_ne (L := L) (show (9 : Nat) ≠ 2 by decide), updV_ne (xs := xs) (show (0 : Nat) ≠ 2 by decide), updV_ne (xs := xs) (show (3 : Nat) ≠ 2 by decide), updV_ne (xs := xs) (show (10 : Nat) ≠ 2 by decide), updV_ne (xs := xs) (show (9 : Nat) ≠ 2 by decide)]; exact H0.out), (by simp only [upd_ne (L := L) (show (0 : Nat) ≠ 2 by decide), upd_ne (L := L) (show (3 : Nat) ≠ 2 by decide), upd_ne (L := L) (show (10 : Nat) ≠ 2 by decide), upd_ne (L := L) (show (12 : Nat) ≠ 2 by decide), upd_ne (L := L) (show (9 : Nat) ≠ 2 by decide), updV_ne (xs := xs) (show (0 : Nat) ≠ 2 by decide), updV_ne (xs := xs) (show (3 : Nat) ≠ 2 by decide), updV_ne (xs := xs) (show (10 : Nat) ≠ 2 by decide), updV_ne (xs := xs) (show (9 : Nat) ≠ 2 by decide)]; exact H1.out), (by simp only [upd_ne (L := L) (show (0 : Nat) ≠ 2 by decide), upd_ne (L := L) (show (3 : Nat) ≠ 2 by decide), upd_ne (L := L) (show (10 : Nat) ≠ 2 by decide), upd_ne (L := L) (show (12 : Nat) ≠ 2 by decide), upd_ne (L := L) (show (9 : Nat) ≠ 2 by decide), updV_ne (xs := xs) (show (0 : Nat) ≠ 2 by decide), updV_ne (xs := xs) (show (3 : Nat) ≠ 2 by decide), updV_ne (xs := xs) (show (10 : Nat) ≠ 2 by decide), updV_ne (xs := xs) (show (9 : Nat) ≠ 2 by decide)]; exact H2.out), (by simp only [upd_ne (L := L) (show (0 : Nat) ≠ 2 by decide), upd_ne (L := L) (show (3 : Nat) ≠ 2 by decide), upd_ne (L := L) (show (10 : Nat) ≠ 2 by decide), upd_ne (L := L) (show (12 : Nat) ≠ 2 by decide), upd_ne (L := L) (show (9 : Nat) ≠ 2 by decide), updV_ne (xs := xs) (show (0 : Nat) ≠ 2 by decide), updV_ne (xs := xs) (show (3 : Nat) ≠ 2 by decide), updV_ne (xs := xs) (show (10 : Nat) ≠ 2 by decide), updV_ne (xs := xs) (show (9 : Nat) ≠ 2 by decide)]; exact H9.out)⟩⟩
            focus
              obtain ⟨d0, d2, _⟩ := hd
              have v0 : a'.eval (.tmp 53) = xs 0 := HF.out.ev 0 rfl d0
              have v2 : a'.eval (.tmp 55) = .slice (some ⟨bs, oo, none⟩) m ca := (HF.out.ev 2 rfl d2).trans (HVA.out 2 _ (by rw [HVV.out]; rfl) d2)
              rw [if_pos (by simp [Region.wanted])]
              rcases hw with ⟨h12, hb, h0, h1, h2, h9⟩ | ⟨_, h, _⟩
              rotate_left
              · have := h 3 (by decide); rw [HLI.out] at this; cases this
              have H0 := Lib.hid h0
              have H1 := Lib.hid h1
              have H2 := Lib.hid h2
              have H9 := Lib.hid h9
              clear h0 h1 h2 h9
              refine wp_append_recs strK (by decide) str_inf Try.underlying22 rfl (by decide) (by decide) (.tmp 53) (.tmp 55) rfl (C := w5.heap.size) v0 (H0.out d0 HLI.out) v2 (HSB.out _ hb) (by simp only [List.length_nil]; omega) hb.size ?_
              intro v5 w5 ho5 hg5 hat5
              have HO5 := Lib.hid ho5
              have HG5 := Lib.hid hg5
              have HAT5 := Lib.hid hat5
              clear ho5 hg5 hat5
              exact hK.out _ _ ⟨HVA.out.free (i := 3) (by rw [HVV.out]; rfl) _, Or.inl ⟨(by rw [upd_ne (by decide)]; exact h12), hb.grown HG5.out hb.size (fun q e => ((H0.out d0 HLI.out).lt q e).1), (fun _ h => by rw [upd_self] at h; cases h), (fun _ => ⟨by rw [upd_ne (by decide)]; exact d0, fun _ => by rw [updV_self]; exact HO5.out⟩), (fun h => by simp only [upd_ne (L := L) (show (0 : Nat) ≠ 3 by decide), upd_ne (L := L) (show (10 : Nat) ≠ 3 by decide), upd_ne (L := L) (show (12 : Nat) ≠ 3 by decide), upd_ne (L := L) (show (9 : Nat) ≠ 3 by decide), updV_ne (xs := xs) (show (0 : Nat) ≠ 3 by decide), updV_ne (xs := xs) (show (10 : Nat) ≠ 3 by decide), updV_ne (xs := xs) (show (9 : Nat) ≠ 3 by decide)] at h; have := (H2.out h).1; rw [HLI.out] at this; cases this), (fun h => by
                  simp only [upd_ne (L := L) (show (0 : Nat) ≠ 3 by decide), upd_ne (L := L) (show (10 : Nat) ≠ 3 by decide), upd_ne (L := L) (show (12 : Nat) ≠ 3 by decide), upd_ne (L := L) (show (9 : Nat) ≠ 3 by decide), updV_ne (xs := xs) (show (0 : Nat) ≠ 3 by decide), updV_ne (xs := xs) (show (10 : Nat) ≠ 3 by decide), updV_ne (xs := xs) (show (9 : Nat) ≠ 3 by decide)] at h ⊢
                  obtain ⟨g', e', hg', h'⟩ := H9.out h
                  refine ⟨g', e', Nat.lt_of_lt_of_le hg' HG5.out.size, fun q => ⟨(HG5.out.cell_far ⟨g', 0, none⟩ hg' (fun e => (h' q).2.1 d0 HLI.out e.symm)).trans (h' q).1, (fun _ q2 => by rw [upd_self] at q2; cases q2), (fun _ e => ?_)⟩⟩
                  rw [updV_self] at e
                  rcases HAT5.out with h5 | h5
                  · rw [h5] at e; exact (h' q).2.1 d0 HLI.out e
                  · rw [h5] at e; injection e with e; omega)⟩⟩
            focus
              clear hd
              obtain ⟨ρ, hρ⟩ : ∃ ρ, a'.eval = ρ := ⟨_, rfl⟩
              have hcst : ∀ v, ρ (.const v) = v := fun v => (congrFun hρ (.const v)).symm
              have l4 : ρ (.tmp 4) = .pointer (some ⟨b0 + 1, 0, none⟩) := (congrFun hρ (.tmp 4)).symm.trans (HF.out.lo 4 rfl)
              rw [if_pos (by simp [Region.wanted])]
              unfold Oper.wp
              rw [hρ]
              clear hρ
              rcases hw with ⟨h12, hb, h0, h1, h2, h9⟩ | ⟨_, h, _⟩
              rotate_left
              · have := h 4 (by decide); rw [HLI.out] at this; cases this
              have H0 := Lib.hid h0
              have H1 := Lib.hid h1
              have H2 := Lib.hid h2
              have H9 := Lib.hid h9
              clear h0 h1 h2 h9
              go_simp
              exact hK.out _ _ ⟨HVA.out.set (i := 4) (by rw [HVV.out]; rfl), Or.inl ⟨(by rw [upd_ne (by decide)]; exact h12), hb, (by simp only [upd_ne (L := L) (show (0 : Nat) ≠ 4 by decide), upd_ne (L := L) (show (3 : Nat) ≠ 4 by decide), upd_ne (L := L) (show (10 : Nat) ≠ 4 by decide), upd_ne (L := L) (show (12 : Nat) ≠ 4 by decide), upd_ne (L := L) (show (9 : Nat) ≠ 4 by decide), updV_ne (xs := xs) (show (0 : Nat) ≠ 4 by decide), updV_ne (xs := xs) (show (3 : Nat) ≠ 4 by decide), updV_ne (xs := xs) (show (10 : Nat) ≠ 4 by decide), updV_ne (xs := xs) (show (9 : Nat) ≠ 4 by decide)]; exact H0.out), (by simp only [upd_ne (L := L) (show (0 : Nat) ≠ 4 by decide), upd_ne (L := L) (show (3 : Nat) ≠ 4 by decide), upd_ne (L := L) (show (10 : Nat) ≠ 4 by decide), upd_ne (L := L) (show (12 : Nat) ≠ 4 by decide), upd_ne (L := L) (show (9 : Nat) ≠ 4 by decide), updV_ne (xs := xs) (show (0 : Nat) ≠ 4 by decide), updV_ne (xs := xs) (show (3 : Nat) ≠ 4 by decide), updV_ne (xs := xs) (show (10 : Nat) ≠ 4 by decide), updV_ne (xs := xs) (show (9 : Nat) ≠ 4 by decide)]; exact H1.out), (by simp only [upd_ne (L := L) (show (0 : Nat) ≠ 4 by decide), upd_ne (L := L) (show (3 : Nat) ≠ 4 by decide), upd_ne (L := L) (show (10 : Nat) ≠ 4 by decide), upd_ne (L := L) (show (12 : Nat) ≠ 4 by decide), upd_ne (L := L) (show (9 : Nat) ≠ 4 by decide), updV_ne (xs := xs) (show (0 : Nat) ≠ 4 by decide), updV_ne (xs := xs) (show (3 : Nat) ≠ 4 by decide), updV_ne (xs := xs) (show (10 : Nat) ≠ 4 by decide), updV_ne (xs := xs) (show (9 : Nat) ≠ 4 by decide)]; exact H2.out), (by simp only [upd_ne (L := L) (show (0 : Nat) ≠ 4 by decide), upd_ne (L := L) (show (3 : Nat) ≠ 4 by decide), upd_ne (L := L) (show (10 : Nat) ≠ 4 by decide), upd_ne (L := L) (show (12 : Nat) ≠ 4 by decide), upd_ne (L := L) (show (9 : Nat) ≠ 4 by decide), updV_ne (xs := xs) (show (0 : Nat) ≠ 4 by decide), updV_ne (xs := xs) (show (3 : Nat) ≠ 4 by decide), updV_ne (xs := xs) (show (10 : Nat) ≠ 4 by decide), updV_ne (xs := xs) (show (9 : Nat) ≠ 4 by decide)]; exact H9.out)⟩⟩
            focus
              obtain ⟨d4, _⟩ := hd
              obtain ⟨ρ, hρ⟩ : ∃ ρ, a'.eval = ρ := ⟨_, rfl⟩
              have hcst : ∀ v, ρ (.const v) = v := fun v => (congrFun hρ (.const v)).symm
              have v4 : ρ (.tmp 57) = .pointer (some ⟨b0 + 1, 8, none⟩) := (congrFun hρ (.tmp 57)).symm.trans ((HF.out.ev 4 rfl d4).trans (HVA.out 4 _ (by rw [HVV.out]; rfl) d4))
              rw [if_pos (by simp [Region.wanted])]
              unfold Oper.wp
              rw [hρ]
              clear hρ
              rcases hw with ⟨h12, hb, h0, h1, h2, h9⟩ | ⟨_, h, _⟩
              rotate_left
              · have := h 5 (by decide); rw [HLI.out] at this; cases this
              have H0 := Lib.hid h0
              have H1 := Lib.hid h1
              have H2 := Lib.hid h2
              have H9 := Lib.hid h9
              clear h0 h1 h2 h9
              have k8 := (HXK.out _ (HB15.out.trans (hb.mono HB15.out.size))).2.2.2.2.2.2.2.2.1
              go_simp
              exact hK.out _ _ ⟨HVA.out.set (i := 5) (by rw [HVV.out]; rfl), Or.inl ⟨(by rw [upd_ne (by decide)]; exact h12), hb, (by simp only [upd_ne (L := L) (show (0 : Nat) ≠ 5 by decide), upd_ne (L := L) (show (3 : Nat) ≠ 5 by decide), upd_ne (L := L) (show (10 : Nat) ≠ 5 by decide), upd_ne (L := L) (show (12 : Nat) ≠ 5 by decide), upd_ne (L := L) (show (9 : Nat) ≠ 5 by decide), updV_ne (xs := xs) (show (0 : Nat) ≠ 5 by decide), updV_ne (xs := xs) (show (3 : Nat) ≠ 5 by decide), updV_ne (xs := xs) (show (10 : Nat) ≠ 5 by decide), updV_ne (xs := xs) (show (9 : Nat) ≠ 5 by decide)]; exact H0.out), (by simp only [upd_ne (L := L) (show (0 : Nat) ≠ 5 by decide), upd_ne (L := L) (show (3 : Nat) ≠ 5 by decide), upd_ne (L := L) (show (10 : Nat) ≠ 5 by decide), upd_ne (L := L) (show (12 : Nat) ≠ 5 by decide), upd_ne (L := L) (show (9 : Nat) ≠ 5 by decide), updV_ne (xs := xs) (show (0 : Nat) ≠ 5 by decide), updV_ne (xs := xs) (show (3 : Nat) ≠ 5 by decide), updV_ne (xs := xs) (show (10 : Nat) ≠ 5 by decide), updV_ne (xs := xs) (show (9 : Nat) ≠ 5 by decide)]; exact H1.out), (by simp only [upd_ne (L := L) (show (0 : Nat) ≠ 5 by decide), upd_ne (L := L) (show (3 : Nat) ≠ 5 by decide), upd_ne (L := L) (show (10 : Nat) ≠ 5 by decide), upd_ne (L := L) (show (12 : Nat) ≠ 5 by decide), upd_ne (L := L) (show (9 : Nat) ≠ 5 by decide), updV_ne (xs := xs) (show (0 : Nat) ≠ 5 by decide), updV_ne (xs := xs) (show (3 : Nat) ≠ 5 by decide), updV_ne (xs := xs) (show (10 : Nat) ≠ 5 by decide), updV_ne (xs := xs) (show (9 : Nat) ≠ 5 by decide)]; exact H2.out), (by simp only [upd_ne (L := L) (show (0 : Nat) ≠ 5 by decide), upd_ne (L := L) (show (3 : Nat) ≠ 5 by decide), upd_ne (L := L) (show (10 : Nat) ≠ 5 by decide), upd_ne (L := L) (show (12 : Nat) ≠ 5 by decide), upd_ne (L := L) (show (9 : Nat) ≠ 5 by decide), updV_ne (xs := xs) (show (0 : Nat) ≠ 5 by decide), updV_ne (xs := xs) (show (3 : Nat) ≠ 5 by decide), updV_ne (xs := xs) (show (10 : Nat) ≠ 5 by decide), updV_ne (xs := xs) (show (9 : Nat) ≠ 5 by decide)]; exact H9.out)⟩⟩
            focus
              clear hd
              obtain ⟨ρ, hρ⟩ : ∃ ρ, a'.eval = ρ := ⟨_, rfl⟩
              have hcst : ∀ v, ρ (.const v) = v := fun v => (congrFun hρ (.const v)).symm
              have l7 : ρ (.tmp 7) = .int .i64 k := (congrFun hρ (.tmp 7)).symm.trans (HF.out.lo 7 rfl)
              rw [if_pos (by simp [Region.wanted])]
              unfold Oper.wp
              rw [hρ]
              clear hρ
              rcases hw with ⟨h12, hb, h0, h1, h2, h9⟩ | ⟨_, h, _⟩
              rotate_left
              · have := h 6 (by decide); rw [HLI.out] at this; cases this
              have H0 := Lib.hid h0
              have H1 := Lib.hid h1
              have H2 := Lib.hid h2
              have H9 := Lib.hid h9
              clear h0 h1 h2 h9
              go_simp
              exact hK.out _ _ ⟨HVA.out.set (i := 6) (by rw [HVV.out]; rfl), Or.inl ⟨(by rw [upd_ne (by decide)]; exact h12), hb, (by simp only [upd_ne (L := L) (show (0 : Nat) ≠ 6 by decide), upd_ne (L := L) (show (3 : Nat) ≠ 6 by decide), upd_ne (L := L) (show (10 : Nat) ≠ 6 by decide), upd_ne (L := L) (show (12 : Nat) ≠ 6 by decide), upd_ne (L := L) (show (9 : Nat) ≠ 6 by decide), updV_ne (xs := xs) (show (0 : Nat) ≠ 6 by decide), updV_ne (xs := xs) (show (3 : Nat) ≠ 6 by decide), updV_ne (xs := xs) (show (10 : Nat) ≠ 6 by decide), updV_ne (xs := xs) (show (9 : Nat) ≠ 6 by decide)]; exact H0.out), (by simp only [upd_ne (L := L) (show (0 : Nat) ≠ 6 by decide), upd_ne (L := L) (show (3 : Nat) ≠ 6 by decide), upd_ne (L := L) (show (10 : Nat) ≠ 6 by decide), upd_ne (L := L) (show (12 : Nat) ≠ 6 by decide), upd_ne (L := L) (show (9 : Nat) ≠ 6 by decide), updV_ne (xs := xs) (show (0 : Nat) ≠ 6 by decide), updV_ne (xs := xs) (show (3 : Nat) ≠ 6 by decide), updV_ne (xs := xs) (show (10 : Nat) ≠ 6 by decide), updV_ne (xs := xs) (show (9 : Nat) ≠ 6 by decide)]; exact H1.out), (by simp only [upd_ne (L := L) (show (0 : Nat) ≠ 6 by decide), upd_ne (L := L) (show (3 : Nat) ≠ 6 by decide), upd_ne (L := L) (show (10 : Nat) ≠ 6 by decide), upd_ne (L := L) (show (12 : Nat) ≠ 6 by decide), upd_ne (L := L) (show (9 : Nat) ≠ 6 by decide), updV_ne (xs := xs) (show (0 : Nat) ≠ 6 by decide), updV_ne (xs := xs) (show (3 : Nat) ≠ 6 by decide), updV_ne (xs := xs) (show (10 : Nat) ≠ 6 by decide), updV_ne (xs := xs) (show (9 : Nat) ≠ 6 by decide)]; exact H2.out), (by simp only [upd_ne (L := L) (show (0 : Nat) ≠ 6 by decide), upd_ne (L := L) (show (3 : Nat) ≠ 6 by decide), upd_ne (L := L) (show (10 : Nat) ≠ 6 by decide), upd_ne (L := L) (show (12 : Nat) ≠ 6 by decide), upd_ne (L := L) (show (9 : Nat) ≠ 6 by decide), updV_ne (xs := xs) (show (0 : Nat) ≠ 6 by decide), updV_ne (xs := xs) (show (3 : Nat) ≠ 6 by decide), updV_ne (xs := xs) (show (10 : Nat) ≠ 6 by decide), updV_ne (xs := xs) (show (9 : Nat) ≠ 6 by decide)]; exact H9.out)⟩⟩
            focus
              obtain ⟨d5, d6, _⟩ := hd
              obtain ⟨ρ, hρ⟩ : ∃ ρ, a'.eval = ρ := ⟨_, rfl⟩
              have hcst : ∀ v, ρ (.const v) = v := fun v => (congrFun hρ (.const v)).symm
              have v5 : ρ (.tmp 58) = .slice (some ⟨bs, oo, none⟩) m ca := (congrFun hρ (.tmp 58)).symm.trans ((HF.out.ev 5 rfl d5).trans (HVA.out 5 _ (by rw [HVV.out]; rfl) d5))
              have v6 : ρ (.tmp 59) = .int .i64 k := (congrFun hρ (.tmp 59)).symm.trans ((HF.out.ev 6 rfl d6).trans (HVA.out 6 _ (by rw [HVV.out]; rfl) d6))
              rw [if_pos (by simp [Region.wanted])]
              unfold Oper.wp
              rw [hρ]
              clear hρ
              rcases hw with ⟨h12, hb, h0, h1, h2, h9⟩ | ⟨_, h, _⟩
              rotate_left
              · have := h 7 (by decide); rw [HLI.out] at this; cases this
              have H0 := Lib.hid h0
              have H1 := Lib.hid h1
              have H2 := Lib.hid h2
              have H9 := Lib.hid h9
              clear h0 h1 h2 h9
              go_simp
              exact hK.out _ _ ⟨HVA.out.set (i := 7) (by rw [HVV.out]; rfl), Or.inl ⟨(by rw [upd_ne (by decide)]; exact h12), hb, (by simp only [upd_ne (L := L) (show (0 : Nat) ≠ 7 by decide), upd_ne (L := L) (show (3 : Nat) ≠ 7 by decide), upd_ne (L := L) (show (10 : Nat) ≠ 7 by decide), upd_ne (L := L) (show (12 : Nat) ≠ 7 by decide), upd_ne (L := L) (show (9 : Nat) ≠ 7 by decide), updV_ne (xs := xs) (show (0 : Nat) ≠ 7 by decide), updV_ne (xs := xs) (show (3 : Nat) ≠ 7 by decide), updV_ne (xs := xs) (show (10 : Nat) ≠ 7 by decide), updV_ne (xs := xs) (show (9 : Nat) ≠ 7 by decide)]; exact H0.out), (by simp only [upd_ne (L := L) (show (0 : Nat) ≠ 7 by decide), upd_ne (L := L) (show (3 : Nat) ≠ 7 by decide), upd_ne (L := L) (show (10 : Nat) ≠ 7 by decide), upd_ne (L := L) (show (12 : Nat) ≠ 7 by decide), upd_ne (L := L) (show (9 : Nat) ≠ 7 by decide), updV_ne (xs := xs) (show (0 : Nat) ≠ 7 by decide), updV_ne (xs := xs) (show (3 : Nat) ≠ 7 by decide), updV_ne (xs := xs) (show (10 : Nat) ≠ 7 by decide), updV_ne (xs := xs) (show (9 : Nat) ≠ 7 by decide)]; exact H1.out), (by simp only [upd_ne (L := L) (show (0 : Nat) ≠ 7 by decide), upd_ne (L := L) (show (3 : Nat) ≠ 7 by decide), upd_ne (L := L) (show (10 : Nat) ≠ 7 by decide), upd_ne (L := L) (show (12 : Nat) ≠ 7 by decide), upd_ne (L := L) (show (9 : Nat) ≠ 7 by decide), updV_ne (xs := xs) (show (0 : Nat) ≠ 7 by decide), updV_ne (xs := xs) (show (3 : Nat) ≠ 7 by decide), updV_ne (xs := xs) (show (10 : Nat) ≠ 7 by decide), updV_ne (xs := xs) (show (9 : Nat) ≠ 7 by decide)]; exact H2.out), (by simp only [upd_ne (L := L) (show (0 : Nat) ≠ 7 by decide), upd_ne (L := L) (show (3 : Nat) ≠ 7 by decide), upd_ne (L := L) (show (10 : Nat) ≠ 7 by decide), upd_ne (L := L) (show (12 : Nat) ≠ 7 by decide), upd_ne (L := L) (show (9 : Nat) ≠ 7 by decide), updV_ne (xs := xs) (show (0 : Nat) ≠ 7 by decide), updV_ne (xs := xs) (show (3 : Nat) ≠ 7 by decide), updV_ne (xs := xs) (show (10 : Nat) ≠ 7 by decide), updV_ne (xs := xs) (show (9 : Nat) ≠ 7 by decide)]; exact H9.out)⟩⟩
            focus
              obtain ⟨d7, _⟩ := hd
              obtain ⟨ρ, hρ⟩ : ∃ ρ, a'.eval = ρ := ⟨_, rfl⟩
              have hcst : ∀ v, ρ (.const v) = v := fun v => (congrFun hρ (.const v)).symm
              have v7 : ρ (.tmp 60) = .pointer (some ⟨bs, oo + k, none⟩) := (congrFun hρ (.tmp 60)).symm.trans ((HF.out.ev 7 rfl d7).trans (HVA.out 7 _ (by rw [HVV.out]; rfl) d7))
              rw [if_pos (by simp [Region.wanted])]
              unfold Oper.wp
              rw [hρ]
              clear hρ
              rcases hw with ⟨h12, hb, h0, h1, h2, h9⟩ | ⟨_, h, _⟩
              rotate_left
              · have := h 8 (by decide); rw [HLI.out] at this; cases this
              have H0 := Lib.hid h0
              have H1 := Lib.hid h1
              have H2 := Lib.hid h2
              have H9 := Lib.hid h9
              clear h0 h1 h2 h9
              have gs := HGK.out _ hb
              go_simp
              exact hK.out _ _ ⟨HVA.out.set (i := 8) (by rw [HVV.out]; rfl), Or.inl ⟨(by rw [upd_ne (by decide)]; exact h12), hb, (by simp only [upd_ne (L := L) (show (0 : Nat) ≠ 8 by decide), upd_ne (L := L) (show (3 : Nat) ≠ 8 by decide), upd_ne (L := L) (show (10 : Nat) ≠ 8 by decide), upd_ne (L := L) (show (12 : Nat) ≠ 8 by decide), upd_ne (L := L) (show (9 : Nat) ≠ 8 by decide), updV_ne (xs := xs) (show (0 : Nat) ≠ 8 by decide), updV_ne (xs := xs) (show (3 : Nat) ≠ 8 by decide), updV_ne (xs := xs) (show (10 : Nat) ≠ 8 by decide), updV_ne (xs := xs) (show (9 : Nat) ≠ 8 by decide)]; exact H0.out), (by simp only [upd_ne (L := L) (show (0 : Nat) ≠ 8 by decide), upd_ne (L := L) (show (3 : Nat) ≠ 8 by decide), upd_ne (L := L) (show (10 : Nat) ≠ 8 by decide), upd_ne (L := L) (show (12 : Nat) ≠ 8 by decide), upd_ne (L := L) (show (9 : Nat) ≠ 8 by decide), updV_ne (xs := xs) (show (0 : Nat) ≠ 8 by decide), updV_ne (xs := xs) (show (3 : Nat) ≠ 8 by decide), updV_ne (xs := xs) (show (10 : Nat) ≠ 8 by decide), updV_ne (xs := xs) (show (9 : Nat) ≠ 8 by decide)]; exact H1.out), (by simp only [upd_ne (L := L) (show (0 : Nat) ≠ 8 by decide), upd_ne (L := L) (show (3 : Nat) ≠ 8 by decide), upd_ne (L := L) (show (10 : Nat) ≠ 8 by decide), upd_ne (L := L) (show (12 : Nat) ≠ 8 by decide), upd_ne (L := L) (show (9 : Nat) ≠ 8 by decide), updV_ne (xs := xs) (show (0 : Nat) ≠ 8 by decide), updV_ne (xs := xs) (show (3 : Nat) ≠ 8 by decide), updV_ne (xs := xs) (show (10 : Nat) ≠ 8 by decide), updV_ne (xs := xs) (show (9 : Nat) ≠ 8 by decide)]; exact H2.out), (by simp only [upd_ne (L := L) (show (0 : Nat) ≠ 8 by decide), upd_ne (L := L) (show (3 : Nat) ≠ 8 by decide), upd_ne (L := L) (show (10 : Nat) ≠ 8 by decide), upd_ne (L := L) (show (12 : Nat) ≠ 8 by decide), upd_ne (L := L) (show (9 : Nat) ≠ 8 by decide), updV_ne (xs := xs) (show (0 : Nat) ≠ 8 by decide), updV_ne (xs := xs) (show (3 : Nat) ≠ 8 by decide), updV_ne (xs := xs) (show (10 : Nat) ≠ 8 by decide), updV_ne (xs := xs) (show (9 : Nat) ≠ 8 by decide)]; exact H9.out)⟩⟩
            focus
              obtain ⟨d8, _⟩ := hd
              obtain ⟨ρ, hρ⟩ : ∃ ρ, a'.eval = ρ := ⟨_, rfl⟩
              have hcst : ∀ v, ρ (.const v) = v := fun v => (congrFun hρ (.const v)).symm
              have v8 : ρ (.tmp 61) = strV sk := (congrFun hρ (.tmp 61)).symm.trans ((HF.out.ev 8 rfl d8).trans (HVA.out 8 _ (by rw [HVV.out]; rfl) d8))
              rw [if_pos (by simp [Region.wanted])]
              unfold Oper.wp
              rw [hρ]
              clear hρ
              rcases hw with ⟨h12, hb, h0, h1, h2, h9⟩ | ⟨_, h, _⟩
              rotate_left
              · have := h 9 (by decide); rw [HLI.out] at this; cases this
              have H0 := Lib.hid h0
              have H1 := Lib.hid h1
              have H2 := Lib.hid h2
              have H9 := Lib.hid h9
              clear h0 h1 h2 h9
              have HBN := Lib.hid (box_below' w' (.cells #[strV sk] 9))
              have HCN := Lib.hid (CellsN.new w' #[strV sk] 9)
              go_simp
              exact hK.out _ _ ⟨HVA.out.free (i := 9) (by rw [HVV.out]; rfl) _, Or.inl ⟨(by rw [upd_ne (by decide)]; exact h12), hb.trans (HBN.out.mono hb.size), (fun h h' => by simp only [upd_ne (L := L) (show (0 : Nat) ≠ 9 by decide), upd_ne (L := L) (show (3 : Nat) ≠ 9 by decide), upd_ne (L := L) (show (10 : Nat) ≠ 9 by decide), upd_ne (L := L) (show (12 : Nat) ≠ 9 by decide), updV_ne (xs := xs) (show (0 : Nat) ≠ 9 by decide), updV_ne (xs := xs) (show (3 : Nat) ≠ 9 by decide), updV_ne (xs := xs) (show (10 : Nat) ≠ 9 by decide)] at h h' ⊢; exact (OwnRecs.below strK (H0.out h h') HBN.out hb.size)), (fun h => by simp only [upd_ne (L := L) (show (0 : Nat) ≠ 9 by decide), upd_ne (L := L) (show (3 : Nat) ≠ 9 by decide), upd_ne (L := L) (show (10 : Nat) ≠ 9 by decide), upd_ne (L := L) (show (12 : Nat) ≠ 9 by decide), updV_ne (xs := xs) (show (0 : Nat) ≠ 9 by decide), updV_ne (xs := xs) (show (3 : Nat) ≠ 9 by decide), updV_ne (xs := xs) (show (10 : Nat) ≠ 9 by decide)] at h ⊢; exact ⟨(H1.out h).1, fun h' => (OwnRecs.below strK ((H1.out h).2 h') HBN.out hb.size)⟩), (fun h => by simp only [upd_ne (L := L) (show (0 : Nat) ≠ 9 by decide), upd_ne (L := L) (show (3 : Nat) ≠ 9 by decide), upd_ne (L := L) (show (10 : Nat) ≠ 9 by decide), upd_ne (L := L) (show (12 : Nat) ≠ 9 by decide), updV_ne (xs := xs) (show (0 : Nat) ≠ 9 by decide), updV_ne (xs := xs) (show (3 : Nat) ≠ 9 by decide), updV_ne (xs := xs) (show (10 : Nat) ≠ 9 by decide)] at h ⊢; have := (H2.out h).2.1; rw [HLI.out] at this; cases this), (fun _ => ⟨w'.heap.size, updV_self _ _ _, HCN.out.lt, fun _ => ⟨(HCN.out.cell 0).trans rfl, (fun q1 q2 e => by
                  simp only [upd_ne (L := L) (show (0 : Nat) ≠ 9 by decide), upd_ne (L := L) (show (3 : Nat) ≠ 9 by decide), upd_ne (L := L) (show (10 : Nat) ≠ 9 by decide), upd_ne (L := L) (show (12 : Nat) ≠ 9 by decide), updV_ne (xs := xs) (show (0 : Nat) ≠ 9 by decide), updV_ne (xs := xs) (show (3 : Nat) ≠ 9 by decide), updV_ne (xs := xs) (show (10 : Nat) ≠ 9 by decide)] at q1 q2 e
                  have := ((H0.out q1 q2).lt _ e).2
                  omega), (fun q1 e => by
                  simp only [upd_ne (L := L) (show (0 : Nat) ≠ 9 by decide), upd_ne (L := L) (show (3 : Nat) ≠ 9 by decide), upd_ne (L := L) (show (10 : Nat) ≠ 9 by decide), upd_ne (L := L) (show (12 : Nat) ≠ 9 by decide), updV_ne (xs := xs) (show (0 : Nat) ≠ 9 by decide), updV_ne (xs := xs) (show (3 : Nat) ≠ 9 by decide), updV_ne (xs := xs) (show (10 : Nat) ≠ 9 by decide)] at q1 e
                  have := (((H1.out q1).2 (by cases h : L 10 with | false => rfl | true => have := (H2.out h).2.1; rw [HLI.out] at this; cases this)).lt _ e).2
                  omega)⟩⟩)⟩⟩
            focus
              obtain ⟨d3, d9, _, _⟩ := hd
              have v3 : a'.eval (.tmp 56) = xs 3 := HF.out.ev 3 rfl d3
              have v9 : a'.eval (.tmp 62) = xs 9 := HF.out.ev 9 rfl d9
              rw [if_pos (by simp [Region.wanted])]
              rcases hw with ⟨h12, hb, h0, h1, h2, h9⟩ | ⟨_, h, _⟩
              rotate_left
              · have := h 10 (by decide); rw [HLI.out] at this; cases this
              have H0 := Lib.hid h0
              have H1 := Lib.hid h1
              have H2 := Lib.hid h2
              have H9 := Lib.hid h9
              clear h0 h1 h2 h9
              obtain ⟨g', e9, hg', h9'⟩ := H9.out d9
              obtain ⟨hc9, _, _⟩ := h9' HLI.out
              rw [e9] at v9
              have hown := (H1.out d3).2 HLI.out
              refine wp_append_recs strK (by decide) str_inf Try.underlying22 rfl (by decide) (by decide) (.tmp 56) (.tmp 62) rfl (C := w5.heap.size) v3 hown v9 (srcRecs_one strK (cs := [strV sk]) (fun q u hq => by match q, hq with | 0, hq => (simp at hq; subst hq; exact hc9)) ⟨rfl, HSKL.out⟩) (by first | omega | (simp; omega)) hb.size ?_
              intro v5 w5 ho5 hg5 hat5
              have HO5 := Lib.hid ho5
              have HG5 := Lib.hid hg5
              clear ho5 hg5 hat5
              exact hK.out _ _ ⟨HVA.out.free (i := 10) (by rw [HVV.out]; rfl) _, Or.inl ⟨(by rw [upd_ne (by decide)]; exact h12), hb.grown HG5.out hb.size (fun q e => (hown.lt q e).1), (fun h h' => by simp only [upd_ne (L := L) (show (0 : Nat) ≠ 10 by decide), upd_ne (L := L) (show (3 : Nat) ≠ 10 by decide), upd_ne (L := L) (show (12 : Nat) ≠ 10 by decide), upd_ne (L := L) (show (9 : Nat) ≠ 10 by decide), updV_ne (xs := xs) (show (0 : Nat) ≠ 10 by decide), updV_ne (xs := xs) (show (3 : Nat) ≠ 10 by decide), updV_ne (xs := xs) (show (9 : Nat) ≠ 10 by decide)] at h h'; rw [d3] at h'; cases h'), (fun _ => ⟨by rw [upd_ne (by decide)]; exact (H1.out d3).1, fun h' => by rw [upd_self] at h'; cases h'⟩), (fun _ => ⟨by rw [upd_ne (by decide)]; exact d3, by rw [upd_ne (by decide)]; exact d9, by rw [updV_self]; exact HO5.out⟩), (fun h => by simp only [upd_ne (L := L) (show (0 : Nat) ≠ 10 by decide), upd_ne (L := L) (show (3 : Nat) ≠ 10 by decide), upd_ne (L := L) (show (12 : Nat) ≠ 10 by decide), upd_ne (L := L) (show (9 : Nat) ≠ 10 by decide), updV_ne (xs := xs) (show (0 : Nat) ≠ 10 by decide), updV_ne (xs := xs) (show (3 : Nat) ≠ 10 by decide), updV_ne (xs := xs) (show (9 : Nat) ≠ 10 by decide)] at h ⊢; obtain ⟨g', e', hg', h'⟩ := H9.out h; exact ⟨g', e', Nat.lt_of_lt_of_le hg' HG5.out.size, fun q => by rw [upd_self] at q; cases q⟩)⟩⟩
            focus
              obtain ⟨d0, d1, d2, d3, d4, d5, d6, d7, d8, d9, d10, _⟩ := hd
              obtain ⟨ρ, hρ⟩ : ∃ ρ, a'.eval = ρ := ⟨_, rfl⟩
              have hcst : ∀ v, ρ (.const v) = v := fun v => (congrFun hρ (.const v)).symm
              have l9 : ρ (.tmp 9) = .pointer (some ⟨g9, 0, none⟩) := (congrFun hρ (.tmp 9)).symm.trans (HF.out.lo 9 rfl)
              rw [if_pos (by simp [Region.wanted])]
              unfold Oper.wp
              rw [hρ]
              clear hρ
              rcases hw with ⟨h12, hb, h0, h1, h2, h9⟩ | ⟨_, h, _⟩
              rotate_left
              · have := h 11 (by decide); rw [HLI.out] at this; cases this
              have H0 := Lib.hid h0
              have H1 := Lib.hid h1
              have H2 := Lib.hid h2
              have H9 := Lib.hid h9
              clear h0 h1 h2 h9
              go_simp
              exact hK.out _ _ ⟨HVA.out.set (i := 11) (by rw [HVV.out]; rfl), Or.inl ⟨(by rw [upd_ne (by decide)]; exact h12), hb, (by simp only [upd_ne (L := L) (show (0 : Nat) ≠ 11 by decide), upd_ne (L := L) (show (3 : Nat) ≠ 11 by decide), upd_ne (L := L) (show (10 : Nat) ≠ 11 by decide), upd_ne (L := L) (show (12 : Nat) ≠ 11 by decide), upd_ne (L := L) (show (9 : Nat) ≠ 11 by decide), updV_ne (xs := xs) (show (0 : Nat) ≠ 11 by decide), updV_ne (xs := xs) (show (3 : Nat) ≠ 11 by decide), updV_ne (xs := xs) (show (10 : Nat) ≠ 11 by decide), updV_ne (xs := xs) (show (9 : Nat) ≠ 11 by decide)]; exact H0.out), (by simp only [upd_ne (L := L) (show (0 : Nat) ≠ 11 by decide), upd_ne (L := L) (show (3 : Nat) ≠ 11 by decide), upd_ne (L := L) (show (10 : Nat) ≠ 11 by decide), upd_ne (L := L) (show (12 : Nat) ≠ 11 by decide), upd_ne (L := L) (show (9 : Nat) ≠ 11 by decide), updV_ne (xs := xs) (show (0 : Nat) ≠ 11 by decide), updV_ne (xs := xs) (show (3 : Nat) ≠ 11 by decide), updV_ne (xs := xs) (show (10 : Nat) ≠ 11 by decide), updV_ne (xs := xs) (show (9 : Nat) ≠ 11 by decide)]; exact H1.out), (by simp only [upd_ne (L := L) (show (0 : Nat) ≠ 11 by decide), upd_ne (L := L) (show (3 : Nat) ≠ 11 by decide), upd_ne (L := L) (show (10 : Nat) ≠ 11 by decide), upd_ne (L := L) (show (12 : Nat) ≠ 11 by decide), upd_ne (L := L) (show (9 : Nat) ≠ 11 by decide), updV_ne (xs := xs) (show (0 : Nat) ≠ 11 by decide), updV_ne (xs := xs) (show (3 : Nat) ≠ 11 by decide), updV_ne (xs := xs) (show (10 : Nat) ≠ 11 by decide), updV_ne (xs := xs) (show (9 : Nat) ≠ 11 by decide)]; exact H2.out), (by simp only [upd_ne (L := L) (show (0 : Nat) ≠ 11 by decide), upd_ne (L := L) (show (3 : Nat) ≠ 11 by decide), upd_ne (L := L) (show (10 : Nat) ≠ 11 by decide), upd_ne (L := L) (show (12 : Nat) ≠ 11 by decide), upd_ne (L := L) (show (9 : Nat) ≠ 11 by decide), updV_ne (xs := xs) (show (0 : Nat) ≠ 11 by decide), updV_ne (xs := xs) (show (3 : Nat) ≠ 11 by decide), updV_ne (xs := xs) (show (10 : Nat) ≠ 11 by decide), updV_ne (xs := xs) (show (9 : Nat) ≠ 11 by decide)]; exact H9.out)⟩⟩
            focus
              obtain ⟨d11, d10, _, d0, d1, d2, d3, d4, d5, d6, d7, d8, d9, _, _⟩ := hd
              obtain ⟨ρ, hρ⟩ : ∃ ρ, a'.eval = ρ := ⟨_, rfl⟩
              have hcst : ∀ v, ρ (.const v) = v := fun v => (congrFun hρ (.const v)).symm
              have v11 : ρ (.tmp 64) = .pointer (some ⟨g9, 8, none⟩) := (congrFun hρ (.tmp 64)).symm.trans ((HF.out.ev 11 rfl d11).trans (HVA.out 11 _ (by rw [HVV.out]; rfl) d11))
              have v10 : ρ (.tmp 63) = xs 10 := (congrFun hρ (.tmp 63)).symm.trans (HF.out.ev 10 rfl d10)
              rw [if_pos (by simp [Region.wanted])]
              unfold Oper.wp
              rw [hρ]
              clear hρ
              rcases hw with ⟨h12, hb, h0, h1, h2, h9⟩ | ⟨h12, _⟩
              rotate_left
              · rw [HLI.out] at h12; cases h12
              obtain ⟨a8, n8, c8, e8⟩ := OwnRecs.form' (h2 d10).2.2
              have hown := (h2 d10).2.2
              rw [e8] at hown v10
              have hcc := HD9.out.ext hb
              have c8' := hcc.cell 8
              have f8 := hcc.free 8
              simp at c8'
              have HOW := Lib.hid hown
              clear hown hcc
              go_simp
              exact hK.out _ _ ⟨HVA.out.free (i := 12) (by rw [HVV.out]; rfl) undef, Or.inr ⟨upd_self _ _, fun j hj => by
                rw [upd_ne (by omega)]
                match j, hj with
                | 0, _ => exact d0
                | 1, _ => exact d1
                | 2, _ => exact d2
                | 3, _ => exact d3
                | 4, _ => exact d4
                | 5, _ => exact d5
                | 6, _ => exact d6
                | 7, _ => exact d7
                | 8, _ => exact d8
                | 9, _ => exact d9
                | 10, _ => exact d10
                | 11, _ => exact d11, w', a8, n8, c8, rfl, hb, HOW.out⟩⟩
          focus
            intro L w' xs hL hJ
            obtain ⟨hv, hw⟩ := hJ
            have e1 : xs 1 = .pointer (some ⟨b0 + 1, 8, none⟩) := hv 1 _ (by rw [HVV.out]; rfl) (hL 1 (by decide))
            have e2 : xs 2 = .slice (some ⟨bs, oo, none⟩) m ca := hv 2 _ (by rw [HVV.out]; rfl) (hL 2 (by decide))
            have e4 : xs 4 = .pointer (some ⟨b0 + 1, 8, none⟩) := hv 4 _ (by rw [HVV.out]; rfl) (hL 4 (by decide))
            have e5 : xs 5 = .slice (some ⟨bs, oo, none⟩) m ca := hv 5 _ (by rw [HVV.out]; rfl) (hL 5 (by decide))
            have e6 : xs 6 = .int .i64 k := hv 6 _ (by rw [HVV.out]; rfl) (hL 6 (by decide))
            have e7 : xs 7 = .pointer (some ⟨bs, oo + k, none⟩) := hv 7 _ (by rw [HVV.out]; rfl) (hL 7 (by decide))
            have e8 : xs 8 = strV sk := hv 8 _ (by rw [HVV.out]; rfl) (hL 8 (by decide))
            have e11 : xs 11 = .pointer (some ⟨g9, 8, none⟩) := hv 11 _ (by rw [HVV.out]; rfl) (hL 11 (by decide))
            simp only [putGo, Act.put, List.setIfInBounds_toArray, List.set_cons_zero, List.set_cons_succ, e1, e2, e4, e5, e6, e7, e8, e11]
            clear hv e1 e2 e4 e5 e6 e7 e8 e11
            rcases hw with ⟨h12, _⟩ | ⟨_, _, w8, a9, n9, c9, hw, hb8, ho8⟩
            · rw [hL 12 (by decide)] at h12; cases h12
            rw [hw]
            clear hw hL
            have hx9 := ((HD9.out.ext hb8).set 8 (.slice a9 n9 c9))
            simp only [List.setIfInBounds_toArray, List.set_cons_zero, List.set_cons_succ] at hx9
            have hgr := grown_setCell w8 ⟨g9, 8, none⟩ (.slice a9 n9 c9)
            obtain ⟨w6, hw6⟩ : ∃ W, w8.setCell ⟨g9, 8, none⟩ (.slice a9 n9 c9) = W := ⟨_, rfl⟩
            rw [hw6] at hx9 hgr
            rw [hw6]
            have hb58 := HB35.out.trans (hb8.mono HB35.out.size)
            have hb36 : Below W3.heap.size W3 w6 := hb58.grown hgr (by have := hb58.size; omega) (fun q e => by have e2 : g9 = q := Option.some.inj e; omega)
            have HF9 := Lib.hid hx9
            have HF8 := Lib.hid ((HD8.out.ext hb8).grown hgr (fun e => hne89 (Option.some.inj e)))
            have HOA6 : Hid (OwnStrs w4.heap.size w6 (.slice a8 n8 c8) (AD ++ AT)) := Lib.hid (by
              have hown := OwnRecs.below strK HOA.out hb8 HB45.out
              have hlt := hown.lt
              obtain ⟨vals, h1, h2, h3, h4⟩ := hown
              exact ⟨vals, h1.kept hgr (.inr (fun e => by have := (hlt g9 e).1; omega)), h2, h3, h4⟩)
            have HOB6 : Hid (OwnStrs w5.heap.size w6 (.slice a9 n9 c9) (x.against ++ [sk])) := Lib.hid (by
              have hlt := ho8.lt
              obtain ⟨vals, h1, h2, h3, h4⟩ := ho8
              exact ⟨vals, h1.kept hgr (.inr (fun e => by have := (hlt g9 e).1; omega)), h2, h3, h4⟩)
            have HB36 := Lib.hid hb36
            have HB16 : Hid (Below W1.heap.size W1 w6) := Lib.hid (HB13.out.trans (hb36.mono HB13.out.size))
            have HBW6 : Hid (Below w.heap.size w w6) := Lib.hid (HB1.out.trans (HB16.out.mono HB1.out.size))
            obtain ⟨E, hE⟩ : ∃ E, resE n [x] = E := ⟨_, rfl⟩
            obtain ⟨os, hos⟩ : ∃ os, resL n [x] = os := ⟨_, rfl⟩
            obtain ⟨hs1, hs2⟩ := against_same (n := n) HPM.out
            rw [hE] at hs1
            rw [hos] at hs2
            obtain ⟨E2, hE2⟩ : ∃ E, resE n [{ x with against := x.against ++ [sk] }] = E := ⟨_, rfl⟩
            obtain ⟨os2, hos2⟩ : ∃ os, resL n [{ x with against := x.against ++ [sk] }] = os := ⟨_, rfl⟩
            have hne2 : E2 ≠ 0 := by rw [← hE2, ← HSKE.out]; exact against_twice (by omega)
            have HSA6 : Hid (IsStrs w6.heap.size w6 (.slice a8 n8 c8) (AD ++ AT)) := Lib.hid (OwnRecs.isRecs strK HOA6.out (by have h2 := hb8.size; have h3 := hgr.size; have h4 := HB45.out; omega))
            have HSB6 : Hid (IsStrs w6.heap.size w6 (.slice a9 n9 c9) (x.against ++ [sk])) := Lib.hid (OwnRecs.isRecs strK HOB6.out (by have h2 := hb8.size; have h3 := hgr.size; omega))
            clear hw6 hx9 hgr hb58 hb36 hb8 ho8
            have HXr7 : Hid (Below W1.heap.size W1 w6) := Lib.hid (HB16.out)
            obtain ⟨x0, x1, x2, x3⟩ := HNK.out w6 HXr7.out
            obtain ⟨k0, k1, k2, k3, k4, k5, k6, k7, k8, k9, k10⟩ := HXK.out w6 HB16.out
            have HWI : Hid (IsWishes (w6.alloc (.cells #[strV x.name, strV x.frm, strV x.to, strV x.cls, .int .i64 x.after, .int .i64 x.by_, .int .i64 x.crowd, .int .i64 x.pay, .slice (some ⟨bs, oo, none⟩) m ca, .bool x.back, .int .i64 x.els] 41)).heap.size (w6.alloc (.cells #[strV x.name, strV x.frm, strV x.to, strV x.cls, .int .i64 x.after, .int .i64 x.by_, .int .i64 x.crowd, .int .i64 x.pay, .slice (some ⟨bs, oo, none⟩) m ca, .bool x.back, .int .i64 x.els] 41)) (.slice (some ⟨w6.heap.size, 0, none⟩) 1 1) [x]) := Lib.hid ((wish1 (w := w6) (va := .slice (some ⟨bs, oo, none⟩) m ca) (x := x) (t := 41) ((IsRecs.below strK (HSK.out w6 HB16.out) (box_below' w6 _) (Nat.le_refl _)).mono strK (by omega)) HOK.out).mono wishK (by simp))
            go_wp2_with fail
            refine (res_law w6 (w6.alloc (.cells #[strV x.name, strV x.frm, strV x.to, strV x.cls, .int .i64 x.after, .int .i64 x.by_, .int .i64 x.crowd, .int .i64 x.pay, .slice (some ⟨bs, oo, none⟩) m ca, .bool x.back, .int .i64 x.els] 41)) ⟨_, _, _, _⟩ n _ [x] E os (box_below' _ _) (HVK.out _ (HXr7.out.alloc HXr7.out.size _)) HSN.out HWI.out (hag1 (by omega)) hE hos).mono ?_
            rintro e r7 ⟨ar7, cr7, rfl, ho, hb⟩
            have HBr7 : Hid (Below w6.heap.size w6 r7) := Lib.hid hb
            have HOr7 := Lib.hid ho
            clear ho hb x0 x1 x2 x3 HWI k0 k1 k2 k3 k4 k5 k6 k7 k8 k9 k10
            have HXr8 : Hid (Below W1.heap.size W1 r7) := Lib.hid (HB16.out.trans (HBr7.out.mono HB16.out.size))
            obtain ⟨x0, x1, x2, x3⟩ := HNK.out r7 HXr8.out
            have k0 := (HF8.out.ext HBr7.out).cell 0
            have k1 := (HF8.out.ext HBr7.out).cell 1
            have k2 := (HF8.out.ext HBr7.out).cell 2
            have k3 := (HF8.out.ext HBr7.out).cell 3
            have k4 := (HF8.out.ext HBr7.out).cell 4
            have k5 := (HF8.out.ext HBr7.out).cell 5
            have k6 := (HF8.out.ext HBr7.out).cell 6
            have k7 := (HF8.out.ext HBr7.out).cell 7
            have k8 := (HF8.out.ext HBr7.out).cell 8
            have k9 := (HF8.out.ext HBr7.out).cell 9
            have k10 := (HF8.out.ext HBr7.out).cell 10
            simp at k0 k1 k2 k3 k4 k5 k6 k7 k8 k9 k10
            have HWI : Hid (IsWishes (r7.alloc (.cells #[strV x.name, strV x.frm, strV x.to, strV x.cls, .int .i64 x.after, .int .i64 x.by_, .int .i64 x.crowd, .int .i64 x.pay, .slice a8 n8 c8, .bool x.back, .int .i64 x.els] 41)).heap.size (r7.alloc (.cells #[strV x.name, strV x.frm, strV x.to, strV x.cls, .int .i64 x.after, .int .i64 x.by_, .int .i64 x.crowd, .int .i64 x.pay, .slice a8 n8 c8, .bool x.back, .int .i64 x.els] 41)) (.slice (some ⟨r7.heap.size, 0, none⟩) 1 1) [{ x with against := AD ++ AT }]) := Lib.hid ((wish1 (w := r7) (va := .slice a8 n8 c8) (x := { x with against := AD ++ AT }) (t := 41) ((IsRecs.below strK ((IsRecs.below strK HSA6.out HBr7.out (Nat.le_refl _)).mono strK HBr7.out.size) (box_below' r7 _) (Nat.le_refl _)).mono strK (by omega)) HOK.out).mono wishK (by simp))
            go_wp2_with fail
            refine (res_law r7 (r7.alloc (.cells #[strV x.name, strV x.frm, strV x.to, strV x.cls, .int .i64 x.after, .int .i64 x.by_, .int .i64 x.crowd, .int .i64 x.pay, .slice a8 n8 c8, .bool x.back, .int .i64 x.els] 41)) ⟨_, _, _, _⟩ n _ [{ x with against := AD ++ AT }] E os (box_below' _ _) (HVK.out _ (HXr8.out.alloc HXr8.out.size _)) HSN.out HWI.out (hag1 (by show (AD ++ AT).length ≤ _; simp; omega)) hs1 hs2).mono ?_
            rintro e r8 ⟨ar8, cr8, rfl, ho, hb⟩
            have HBr8 : Hid (Below r7.heap.size r7 r8) := Lib.hid hb
            have HOr8 := Lib.hid ho
            clear ho hb x0 x1 x2 x3 HWI k0 k1 k2 k3 k4 k5 k6 k7 k8 k9 k10
            have HXr9 : Hid (Below W1.heap.size W1 r8) := Lib.hid (HXr8.out.trans (HBr8.out.mono HXr8.out.size))
            obtain ⟨x0, x1, x2, x3⟩ := HNK.out r8 HXr9.out
            have k0 := ((HF9.out.ext HBr7.out).ext HBr8.out).cell 0
            have k1 := ((HF9.out.ext HBr7.out).ext HBr8.out).cell 1
            have k2 := ((HF9.out.ext HBr7.out).ext HBr8.out).cell 2
            have k3 := ((HF9.out.ext HBr7.out).ext HBr8.out).cell 3
            have k4 := ((HF9.out.ext HBr7.out).ext HBr8.out).cell 4
            have k5 := ((HF9.out.ext HBr7.out).ext HBr8.out).cell 5
            have k6 := ((HF9.out.ext HBr7.out).ext HBr8.out).cell 6
            have k7 := ((HF9.out.ext HBr7.out).ext HBr8.out).cell 7
            have k8 := ((HF9.out.ext HBr7.out).ext HBr8.out).cell 8
            have k9 := ((HF9.out.ext HBr7.out).ext HBr8.out).cell 9
            have k10 := ((HF9.out.ext HBr7.out).ext HBr8.out).cell 10
            simp at k0 k1 k2 k3 k4 k5 k6 k7 k8 k9 k10
            have HWI : Hid (IsWishes (r8.alloc (.cells #[strV x.name, strV x.frm, strV x.to, strV x.cls, .int .i64 x.after, .int .i64 x.by_, .int .i64 x.crowd, .int .i64 x.pay, .slice a9 n9 c9, .bool x.back, .int .i64 x.els] 41)).heap.size (r8.alloc (.cells #[strV x.name, strV x.frm, strV x.to, strV x.cls, .int .i64 x.after, .int .i64 x.by_, .int .i64 x.crowd, .int .i64 x.pay, .slice a9 n9 c9, .bool x.back, .int .i64 x.els] 41)) (.slice (some ⟨r8.heap.size, 0, none⟩) 1 1) [{ x with against := x.against ++ [sk] }]) := Lib.hid ((wish1 (w := r8) (va := .slice a9 n9 c9) (x := { x with against := x.against ++ [sk] }) (t := 41) ((IsRecs.below strK ((IsRecs.below strK HSB6.out (HBr7.out.trans (HBr8.out.mono HBr7.out.size)) (Nat.le_refl _)).mono strK (by have := HBr7.out.size; have := HBr8.out.size; omega)) (box_below' r8 _) (Nat.le_refl _)).mono strK (by omega)) HOK.out).mono wishK (by simp))
            go_wp2_with fail
            refine (res_law r8 (r8.alloc (.cells #[strV x.name, strV x.frm, strV x.to, strV x.cls, .int .i64 x.after, .int .i64 x.by_, .int .i64 x.crowd, .int .i64 x.pay, .slice a9 n9 c9, .bool x.back, .int .i64 x.els] 41)) ⟨_, _, _, _⟩ n _ [{ x with against := x.against ++ [sk] }] E2 os2 (box_below' _ _) (HVK.out _ (HXr9.out.alloc HXr9.out.size _)) HSN.out HWI.out (hag1 (by show (x.against ++ [sk]).length ≤ _; simp; omega)) hE2 hos2).mono ?_
            rintro e r9 ⟨ar9, cr9, rfl, ho, hb⟩
            have HBr9 : Hid (Below r8.heap.size r8 r9) := Lib.hid hb
            have HOr9 := Lib.hid ho
            clear ho hb x0 x1 x2 x3 HWI k0 k1 k2 k3 k4 k5 k6 k7 k8 k9 k10
            have he2 : (E2 != 0) = true := by simpa using hne2
            have HO79 := Lib.hid ((IsRecs.below orderK HOr7.out (HBr8.out.trans (HBr9.out.mono HBr8.out.size)) (Nat.le_refl _)).mono orderK (show r7.heap.size ≤ r9.heap.size by have := HBr8.out.size; have := HBr9.out.size; omega))
            have HO89 := Lib.hid ((IsRecs.below orderK HOr8.out HBr9.out (Nat.le_refl _)).mono orderK HBr9.out.size)
            clear hne2 hE hos hs1 hs2 hE2 hos2
            go_wp2_with fail
            refine (rsame_any r9.heap.size r9 _ _ os os (Nat.le_refl _) HO79.out HO89.out).mono ?_
            rintro e r10 ⟨rfl, hb⟩
            rw [show sameOs os os = true from by unfold sameOs; simp]
            have HBE : Hid (Below w.heap.size w r10) := Lib.hid ((HB1.out.trans ((HXr9.out.trans (HBr9.out.mono HXr9.out.size)).mono HB1.out.size)).trans (hb.mono (by have := HB1.out.size; have := HXr9.out.size; have := HBr9.out.size; omega)))
            clear hb
            go_wp2
            go_ret
            exact ⟨rfl, HBE.out⟩
end Go.Proofs.Ytmfbabmejbppjaa
