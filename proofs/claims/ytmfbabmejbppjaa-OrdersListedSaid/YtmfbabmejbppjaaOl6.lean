/-
  Layer 18: the walk of frankinglaw18.OrdersListed (printed by tools/genol6.py).
-/
import Derived.Test.YtmfbabmejbppjaaOl6f
set_option linter.unusedVariables false
set_option linter.unusedSimpArgs false
namespace Go.Proofs.Ytmfbabmejbppjaa
open Go.RowKit

set_option maxHeartbeats 16000000 in
set_option maxRecDepth 100000 in
theorem ordersListed_any (B : Nat) (w : World) (v : NamesV) (n : NamesD) (vl : Value) (l : List WishD) (ta tb : Nat) (hB : B ≤ w.heap.size) (hv : IsNames B w v n) (hl : IsWishes B w vl l) (hta : ta ≤ 255) (htb : tb ≤ 255) :
    Calls Try.prog 8 #[v.agg, vl, .int .u8 (ta : Int), .int .u8 (tb : Int)] w fun e w' => e = .returned (.bool true) ∧ Below w.heap.size w w' := by
  obtain ⟨vo, vp, vc, vh⟩ := v
  obtain ⟨ao, co, e, ho1, ho2, ho3⟩ := hv.o.form
  simp only at e; subst e
  obtain ⟨ap, cp, e, hp1, hp2, hp3⟩ := hv.p.form
  simp only at e; subst e
  obtain ⟨ac, cc, e, hc1, hc2, hc3⟩ := hv.c.form
  simp only at e; subst e
  obtain ⟨bh, oh, ch, ⟨ah, e, hh1, hh2, hh4⟩, hh3, hh5, hh6⟩ := id hv.h
  simp only at e; subst e
  obtain ⟨aw, cw, e, hw1, hw2, hw3⟩ := hl.form
  subst e
  have HV := Lib.hid hv
  have HL := Lib.hid hl
  obtain ⟨b0, hb0⟩ : ∃ b, w.heap.size = b := ⟨_, rfl⟩
  obtain ⟨W0, hW0⟩ : ∃ W, w.alloc (.cells #[.slice ao n.offices.length co, .slice ap n.people.length cp, .slice ac n.classes.length cc, .slice ah n.homes.length ch] 25) = W := ⟨_, rfl⟩
  have HB0 : Hid (Below w.heap.size w W0) := Lib.hid (by rw [← hW0]; exact box_below' w _)
  have HX0 : Hid (Box W0 b0 #[.slice ao n.offices.length co, .slice ap n.people.length cp, .slice ac n.classes.length cc, .slice ah n.homes.length ch]) := Lib.hid (by rw [← hW0, ← hb0]; exact Box.new _ _ _)
  have HW0 := Lib.hid hW0
  have HBZ := Lib.hid hb0
  clear hv hl hh5 hh6 hh4 hW0
  unfold NamesV.agg
  go_enter Try.func8, Try.ntmps8
  go_upto_region 1 with fail
  rw [HW0.out]
  try rw [hb0]
  clear hb0
  go_wp2_with fail
  refine (sane18_any W0).mono ?_
  rintro e W1 ⟨rfl, hb⟩
  have HB1 : Hid (Below w.heap.size w W1) := Lib.hid (HB0.out.trans (hb.mono HB0.out.size))
  have HX1 := Lib.hid (HX0.out.ext hb)
  clear hb
  have HNK : Hid (∀ W, Below W1.heap.size W1 W → W.cell? ⟨b0, 0, none⟩ = some (.slice ao n.offices.length co) ∧ W.cell? ⟨b0, 1, none⟩ = some (.slice ap n.people.length cp) ∧ W.cell? ⟨b0, 2, none⟩ = some (.slice ac n.classes.length cc) ∧ W.cell? ⟨b0, 3, none⟩ = some (.slice ah n.homes.length ch)) := Lib.hid fun W hW => by
    have hx := (HX1.out.ext hW).2
    exact ⟨hx 0, hx 1, hx 2, hx 3⟩
  have HVK : Hid (∀ W, Below W1.heap.size W1 W → IsNames W.heap.size W ⟨.slice ao n.offices.length co, .slice ap n.people.length cp, .slice ac n.classes.length cc, .slice ah n.homes.length ch⟩ n) := Lib.hid fun W hW => (HV.out.below (HB1.out.trans (hW.mono HB1.out.size)) hB).mono (by have := HB1.out.size; have := hW.size; omega)
  have HLK : Hid (∀ W, Below W1.heap.size W1 W → IsWishes W.heap.size W (.slice aw l.length cw) l) := Lib.hid fun W hW => (IsRecs.below wishK HL.out (HB1.out.trans (hW.mono HB1.out.size)) hB).mono wishK (by have := HB1.out.size; have := hW.size; omega)
  obtain ⟨x0, x1, x2, x3⟩ := HNK.out W1 (Below.refl _ _)
  go_wp2_with fail
  refine (fewnames_any W1.heap.size W1 ⟨_, _, _, _⟩ n (HVK.out W1 (Below.refl _ _))).mono ?_
  rintro e W2 ⟨rfl, hb⟩
  have HB12 : Hid (Below W1.heap.size W1 W2) := Lib.hid hb
  clear hb x0 x1 x2 x3
  cases hfn : fewN n with
  | false =>
    have HFN := Lib.hid hfn
    clear hfn
    go_wp2
    go_ret
    exact ⟨rfl, HB1.out.trans (HB12.out.mono HB1.out.size)⟩
  | true =>
    have HFN := Lib.hid hfn
    clear hfn
    go_wp2_with fail
    refine (few_any W2.heap.size W2 _ l (HLK.out W2 HB12.out)).mono ?_
    rintro e w3 ⟨rfl, hw⟩
    rw [hw]
    clear hw
    cases hfl : fewL l with
    | false =>
      clear hfl
      go_wp2
      go_ret
      exact ⟨rfl, HB1.out.trans (HB12.out.mono HB1.out.size)⟩
    | true =>
      obtain ⟨hl70, hag0⟩ := fewL_of hfl
      have HAG : Hid (∀ k, k < l.length → (wishAt l k).against.length ≤ 1000000) := Lib.hid fun k hk => by have := hag0 k hk; omega
      have HAG40 := Lib.hid hag0
      have HSN : Hid (SmallN n) := Lib.hid (fewN_small HFN.out)
      have HL70 := Lib.hid hl70
      clear hfl hag0 hl70
      by_cases hm0 : n.offices.length = 0
      · obtain ⟨x0, x1, x2, x3⟩ := HNK.out W2 HB12.out
        rw [hm0] at x0
        go_wp2
        go_ret
        exact ⟨rfl, HB1.out.trans (HB12.out.mono HB1.out.size)⟩
      by_cases hm24 : 24 < n.offices.length
      · have hmi : (24 : Int) < (n.offices.length : Int) := by omega
        have hmz : ((n.offices.length : Int) == 0) = false := by
          have : ¬ (n.offices.length : Int) = 0 := by omega
          simpa using this
        obtain ⟨x0, x1, x2, x3⟩ := HNK.out W2 HB12.out
        go_wp2
        go_ret
        exact ⟨rfl, HB1.out.trans (HB12.out.mono HB1.out.size)⟩
      have hmi : (n.offices.length : Int) ≤ 24 := by omega
      have hmz : ((n.offices.length : Int) == 0) = false := by
        have : ¬ (n.offices.length : Int) = 0 := by omega
        simpa using this
      obtain ⟨i, hi⟩ : ∃ i, ta % n.offices.length = i := ⟨_, rfl⟩
      obtain ⟨j, hj⟩ : ∃ j, tb % n.offices.length = j := ⟨_, rfl⟩
      have him : i < n.offices.length := by rw [← hi]; exact Nat.mod_lt _ (by omega)
      have hjm : j < n.offices.length := by rw [← hj]; exact Nat.mod_lt _ (by omega)
      have HRI : Hid ((ta : Int) % (n.offices.length : Int) = (i : Int) ∧ (ta : Int).tmod (n.offices.length : Int) = (i : Int)) := Lib.hid (by
        have h : (ta : Int) % (n.offices.length : Int) = (i : Int) := by rw [← hi]; simp
        exact ⟨h, by rw [Int.tmod_eq_emod_of_nonneg (by omega)]; exact h⟩)
      have HRJ : Hid ((tb : Int) % (n.offices.length : Int) = (j : Int) ∧ (tb : Int).tmod (n.offices.length : Int) = (j : Int)) := Lib.hid (by
        have h : (tb : Int) % (n.offices.length : Int) = (j : Int) := by rw [← hj]; simp
        exact ⟨h, by rw [Int.tmod_eq_emod_of_nonneg (by omega)]; exact h⟩)
      clear hi hj
      obtain ⟨x0, x1, x2, x3⟩ := HNK.out W2 HB12.out
      obtain ⟨bs, oo, rfl, bbs, gs, gsl⟩ := IsStrs.cell (HVK.out W2 HB12.out).o (show 0 < n.offices.length by omega)
      clear gs gsl bbs
      go_upto_region 5 with fail
      clear x0 x1 x2 x3 hmz hmi
      have hmz2 : ¬ (n.offices.length : Int) = 0 := by omega
      have HMZ := Lib.hid hmz2
      clear hmz2
      obtain ⟨V, hV⟩ : ∃ V : List (Option Value), V = [some (.int .u8 (ta : Int)), some (.int .i64 (ta : Int)), some (.pointer (some ⟨b0, 0, none⟩)), some (.slice (some ⟨bs, oo, none⟩) n.offices.length co), some (.int .i64 (n.offices.length : Int)), some (.int .i64 (i : Int)), some (.int .u8 (tb : Int)), some (.int .i64 (tb : Int)), some (.pointer (some ⟨b0, 0, none⟩)), some (.slice (some ⟨bs, oo, none⟩) n.offices.length co), some (.int .i64 (n.offices.length : Int)), some (.int .i64 (j : Int)), none, none, none, none] := ⟨_, rfl⟩
      have HVV := Lib.hid hV
      clear hV
      refine wp_region_V [some 48, some 49, some 50, some 51, some 52, some 53, some 54, some 55, some 56, some 57, some 58, some 59, some 9, some 10, none, none] (fun L w' xs => ValsAt V L xs ∧ (Below W2.heap.size W2 w' ∧ (L 12 = true → ∃ g, xs 12 = .pointer (some ⟨g, 0, none⟩) ∧ W2.heap.size ≤ g ∧ (L 14 = false → CellsN w' g #[.int .i64 0]) ∧ (L 14 = true → CellsN w' g #[.int .i64 (i : Int)])) ∧ (L 13 = true → ∃ g, xs 13 = .pointer (some ⟨g, 0, none⟩) ∧ W2.heap.size ≤ g ∧ (L 15 = false → CellsN w' g #[.int .i64 0]) ∧ (L 15 = true → CellsN w' g #[.int .i64 (j : Int)])) ∧ (L 14 = true → L 12 = true ∧ L 13 = true) ∧ (L 15 = true → L 13 = true) ∧ (L 12 = true → L 13 = true → xs 12 ≠ xs 13))) (by kernel_rfl) (by kernel_rfl) (by rfl) (by rfl) (by rfl) ?_ ?_ ?_
      focus
        exact fun xs => ⟨ValsAt.none _ _, (Below.refl _ _).drew, (fun h => by cases h), (fun h => by cases h), (fun h => by cases h), (fun h => by cases h), (fun h => by cases h)⟩
      focus
        refine ⟨?_, ?_, ?_, ?_, ?_, ?_, ?_, ?_, ?_, ?_, ?_, ?_, ?_, ?_, ?_, ?_, trivial⟩
        all_goals
          intro L a' w' xs hi hd hf hJ K hK
          obtain ⟨hv, hb, h2, h3, h4, h5, hn⟩ := hJ
          have HF := Lib.hid hf
          have HVA := Lib.hid hv
          have HLI := Lib.hid hi
          clear hf hv hi
        focus
          clear hd
          obtain ⟨ρ, hρ⟩ : ∃ ρ, a'.eval = ρ := ⟨_, rfl⟩
          have hcst : ∀ v, ρ (.const v) = v := fun v => (congrFun hρ (.const v)).symm
          have l2 : ρ (.tmp 2) = .int .u8 (ta : Int) := (congrFun hρ (.tmp 2)).symm.trans (HF.out.lo 2 rfl)
          rw [if_pos (by simp [Region.wanted])]
          unfold Oper.wp
          rw [hρ]
          clear hρ
          have H2 := Lib.hid h2
          have H3 := Lib.hid h3
          have H4 := Lib.hid h4
          have H5 := Lib.hid h5
          have Hn := Lib.hid hn
          clear h2 h3 h4 h5 hn
          go_simp
          exact hK.out _ _ ⟨HVA.out.set (i := 0) (by rw [HVV.out]; rfl), hb, (by simp only [upd_ne (L := L) (show (12 : Nat) ≠ 0 by decide), upd_ne (L := L) (show (13 : Nat) ≠ 0 by decide), upd_ne (L := L) (show (14 : Nat) ≠ 0 by decide), upd_ne (L := L) (show (15 : Nat) ≠ 0 by decide), updV_ne (xs := xs) (show (12 : Nat) ≠ 0 by decide), updV_ne (xs := xs) (show (13 : Nat) ≠ 0 by decide)]; exact H2.out), (by simp only [upd_ne (L := L) (show (12 : Nat) ≠ 0 by decide), upd_ne (L := L) (show (13 : Nat) ≠ 0 by decide), upd_ne (L := L) (show (14 : Nat) ≠ 0 by decide), upd_ne (L := L) (show (15 : Nat) ≠ 0 by decide), updV_ne (xs := xs) (show (12 : Nat) ≠ 0 by decide), updV_ne (xs := xs) (show (13 : Nat) ≠ 0 by decide)]; exact H3.out), (by simp only [upd_ne (L := L) (show (12 : Nat) ≠ 0 by decide), upd_ne (L := L) (show (13 : Nat) ≠ 0 by decide), upd_ne (L := L) (show (14 : Nat) ≠ 0 by decide), upd_ne (L := L) (show (15 : Nat) ≠ 0 by decide), updV_ne (xs := xs) (show (12 : Nat) ≠ 0 by decide), updV_ne (xs := xs) (show (13 : Nat) ≠ 0 by decide)]; exact H4.out), (by simp only [upd_ne (L := L) (show (12 : Nat) ≠ 0 by decide), upd_ne (L := L) (show (13 : Nat) ≠ 0 by decide), upd_ne (L := L) (show (14 : Nat) ≠ 0 by decide), upd_ne (L := L) (show (15 : Nat) ≠ 0 by decide), updV_ne (xs := xs) (show (12 : Nat) ≠ 0 by decide), updV_ne (xs := xs) (show (13 : Nat) ≠ 0 by decide)]; exact H5.out), (by simp only [upd_ne (L := L) (show (12 : Nat) ≠ 0 by decide), upd_ne (L := L) (show (13 : Nat) ≠ 0 by decide), upd_ne (L := L) (show (14 : Nat) ≠ 0 by decide), upd_ne (L := L) (show (15 : Nat) ≠ 0 by decide), updV_ne (xs := xs) (show (12 : Nat) ≠ 0 by decide), updV_ne (xs := xs) (show (13 : Nat) ≠ 0 by decide)]; exact Hn.out)⟩
        focus
          obtain ⟨d0, _⟩ := hd
          obtain ⟨ρ, hρ⟩ : ∃ ρ, a'.eval = ρ := ⟨_, rfl⟩
          have hcst : ∀ v, ρ (.const v) = v := fun v => (congrFun hρ (.const v)).symm
          have v0 : ρ (.tmp 48) = .int .u8 (ta : Int) := (congrFun hρ (.tmp 48)).symm.trans ((HF.out.ev 0 rfl d0).trans (HVA.out 0 _ (by rw [HVV.out]; rfl) d0))
          rw [if_pos (by simp [Region.wanted])]
          unfold Oper.wp
          rw [hρ]
          clear hρ
          have H2 := Lib.hid h2
          have H3 := Lib.hid h3
          have H4 := Lib.hid h4
          have H5 := Lib.hid h5
          have Hn := Lib.hid hn
          clear h2 h3 h4 h5 hn
          have hw1 : IntKind.i64.wrap (ta : Int) = (ta : Int) := by rw [IntWalk.i64_in _ (by omega)]
          go_simp
          exact hK.out _ _ ⟨HVA.out.set (i := 1) (by rw [HVV.out]; rfl), hb, (by simp only [upd_ne (L := L) (show (12 : Nat) ≠ 1 by decide), upd_ne (L := L) (show (13 : Nat) ≠ 1 by decide), upd_ne (L := L) (show (14 : Nat) ≠ 1 by decide), upd_ne (L := L) (show (15 : Nat) ≠ 1 by decide), updV_ne (xs := xs) (show (12 : Nat) ≠ 1 by decide), updV_ne (xs := xs) (show (13 : Nat) ≠ 1 by decide)]; exact H2.out), (by simp only [upd_ne (L := L) (show (12 : Nat) ≠ 1 by decide), upd_ne (L := L) (show (13 : Nat) ≠ 1 by decide), upd_ne (L := L) (show (14 : Nat) ≠ 1 by decide), upd_ne (L := L) (show (15 : Nat) ≠ 1 by decide), updV_ne (xs := xs) (show (12 : Nat) ≠ 1 by decide), updV_ne (xs := xs) (show (13 : Nat) ≠ 1 by decide)]; exact H3.out), (by simp only [upd_ne (L := L) (show (12 : Nat) ≠ 1 by decide), upd_ne (L := L) (show (13 : Nat) ≠ 1 by decide), upd_ne (L := L) (show (14 : Nat) ≠ 1 by decide), upd_ne (L := L) (show (15 : Nat) ≠ 1 by decide), updV_ne (xs := xs) (show (12 : Nat) ≠ 1 by decide), updV_ne (xs := xs) (show (13 : Nat) ≠ 1 by decide)]; exact H4.out), (by simp only [upd_ne (L := L) (show (12 : Nat) ≠ 1 by decide), upd_ne (L := L) (show (13 : Nat) ≠ 1 by decide), upd_ne (L := L) (show (14 : Nat) ≠ 1 by decide), upd_ne (L := L) (show (15 : Nat) ≠ 1 by decide), updV_ne (xs := xs) (show (12 : Nat) ≠ 1 by decide), updV_ne (xs := xs) (show (13 : Nat) ≠ 1 by decide)]; exact H5.out), (by simp only [upd_ne (L := L) (show (12 : Nat) ≠ 1 by decide), upd_ne (L := L) (show (13 : Nat) ≠ 1 by decide), upd_ne (L := L) (show (14 : Nat) ≠ 1 by decide), upd_ne (L := L) (show (15 : Nat) ≠ 1 by decide), updV_ne (xs := xs) (show (12 : Nat) ≠ 1 by decide), updV_ne (xs := xs) (show (13 : Nat) ≠ 1 by decide)]; exact Hn.out)⟩
        focus
          clear hd
          obtain ⟨ρ, hρ⟩ : ∃ ρ, a'.eval = ρ := ⟨_, rfl⟩
          have hcst : ∀ v, ρ (.const v) = v := fun v => (congrFun hρ (.const v)).symm
          have l4 : ρ (.tmp 4) = .pointer (some ⟨b0, 0, none⟩) := (congrFun hρ (.tmp 4)).symm.trans (HF.out.lo 4 rfl)
          rw [if_pos (by simp [Region.wanted])]
          unfold Oper.wp
          rw [hρ]
          clear hρ
          have H2 := Lib.hid h2
          have H3 := Lib.hid h3
          have H4 := Lib.hid h4
          have H5 := Lib.hid h5
          have Hn := Lib.hid hn
          clear h2 h3 h4 h5 hn
          go_simp
          exact hK.out _ _ ⟨HVA.out.set (i := 2) (by rw [HVV.out]; rfl), hb, (by simp only [upd_ne (L := L) (show (12 : Nat) ≠ 2 by decide), upd_ne (L := L) (show (13 : Nat) ≠ 2 by decide), upd_ne (L := L) (show (14 : Nat) ≠ 2 by decide), upd_ne (L := L) (show (15 : Nat) ≠ 2 by decide), updV_ne (xs := xs) (show (12 : Nat) ≠ 2 by decide), updV_ne (xs := xs) (show (13 : Nat) ≠ 2 by decide)]; exact H2.out), (by simp only [upd_ne (L := L) (show (12 : Nat) ≠ 2 by decide), upd_ne (L := L) (show (13 : Nat) ≠ 2 by decide), upd_ne (L := L) (show (14 : Nat) ≠ 2 by decide), upd_ne (L := L) (show (15 : Nat) ≠ 2 by decide), updV_ne (xs := xs) (show (12 : Nat) ≠ 2 by decide), updV_ne (xs := xs) (show (13 : Nat) ≠ 2 by decide)]; exact H3.out), (by simp only [upd_ne (L := L) (show (12 : Nat) ≠ 2 by decide), upd_ne (L := L) (show (13 : Nat) ≠ 2 by decide), upd_ne (L := L) (show (14 : Nat) ≠ 2 by decide), upd_ne (L := L) (show (15 : Nat) ≠ 2 by decide), updV_ne (xs := xs) (show (12 : Nat) ≠ 2 by decide), updV_ne (xs := xs) (show (13 : Nat) ≠ 2 by decide)]; exact H4.out), (by simp only [upd_ne (L := L) (show (12 : Nat) ≠ 2 by decide), upd_ne (L := L) (show (13 : Nat) ≠ 2 by decide), upd_ne (L := L) (show (14 : Nat) ≠ 2 by decide), upd_ne (L := L) (show (15 : Nat) ≠ 2 by decide), updV_ne (xs := xs) (show (12 : Nat) ≠ 2 by decide), updV_ne (xs := xs) (show (13 : Nat) ≠ 2 by decide)]; exact H5.out), (by simp only [upd_ne (L := L) (show (12 : Nat) ≠ 2 by decide), upd_ne (L := L) (show (13 : Nat) ≠ 2 by decide), upd_ne (L := L) (show (14 : Nat) ≠ 2 by decide), upd_ne (L := L) (show (15 : Nat) ≠ 2 by decide), updV_ne (xs := xs) (show (12 : Nat) ≠ 2 by decide), updV_ne (xs := xs) (show (13 : Nat) ≠ 2 by decide)]; exact Hn.out)⟩
        focus
          obtain ⟨d2, _⟩ := hd
          obtain ⟨ρ, hρ⟩ : ∃ ρ, a'.eval = ρ := ⟨_, rfl⟩
          have hcst : ∀ v, ρ (.const v) = v := fun v => (congrFun hρ (.const v)).symm
          have v2 : ρ (.tmp 50) = .pointer (some ⟨b0, 0, none⟩) := (congrFun hρ (.tmp 50)).symm.trans ((HF.out.ev 2 rfl d2).trans (HVA.out 2 _ (by rw [HVV.out]; rfl) d2))
          rw [if_pos (by simp [Region.wanted])]
          unfold Oper.wp
          rw [hρ]
          clear hρ
          have H2 := Lib.hid h2
          have H3 := Lib.hid h3
          have H4 := Lib.hid h4
          have H5 := Lib.hid h5
          have Hn := Lib.hid hn
          clear h2 h3 h4 h5 hn
          obtain ⟨x0, x1, x2, x3⟩ := HNK.out _ (HB12.out.trans (hb.mono HB12.out.size))
          go_simp
          exact hK.out _ _ ⟨HVA.out.set (i := 3) (by rw [HVV.out]; rfl), hb, (by simp only [upd_ne (L := L) (show (12 : Nat) ≠ 3 by decide), upd_ne (L := L) (show (13 : Nat) ≠ 3 by decide), upd_ne (L := L) (show (14 : Nat) ≠ 3 by decide), upd_ne (L := L) (show (15 : Nat) ≠ 3 by decide), updV_ne (xs := xs) (show (12 : Nat) ≠ 3 by decide), updV_ne (xs := xs) (show (13 : Nat) ≠ 3 by decide)]; exact H2.out), (by simp only [upd_ne (L := L) (show (12 : Nat) ≠ 3 by decide), upd_ne (L := L) (show (13 : Nat) ≠ 3 by decide), upd_ne (L := L) (show (14 : Nat) ≠ 3 by decide), upd_ne (L := L) (show (15 : Nat) ≠ 3 by decide), updV_ne (xs := xs) (show (12 : Nat) ≠ 3 by decide), updV_ne (xs := xs) (show (13 : Nat) ≠ 3 by decide)]; exact H3.out), (by simp only [upd_ne (L := L) (show (12 : Nat) ≠ 3 by decide), upd_ne (L := L) (show (13 : Nat) ≠ 3 by decide), upd_ne (L := L) (show (14 : Nat) ≠ 3 by decide), upd_ne (L := L) (show (15 : Nat) ≠ 3 by decide), updV_ne (xs := xs) (show (12 : Nat) ≠ 3 by decide), updV_ne (xs := xs) (show (13 : Nat) ≠ 3 by decide)]; exact H4.out), (by simp only [upd_ne (L := L) (show (12 : Nat) ≠ 3 by decide), upd_ne (L := L) (show (13 : Nat) ≠ 3 by decide), upd_ne (L := L) (show (14 : Nat) ≠ 3 by decide), upd_ne (L := L) (show (15 : Nat) ≠ 3 by decide), updV_ne (xs := xs) (show (12 : Nat) ≠ 3 by decide), updV_ne (xs := xs) (show (13 : Nat) ≠ 3 by decide)]; exact H5.out), (by simp only [upd_ne (L := L) (show (12 : Nat) ≠ 3 by decide), upd_ne (L := L) (show (13 : Nat) ≠ 3 by decide), upd_ne (L := L) (show (14 : Nat) ≠ 3 by decide), upd_ne (L := L) (show (15 : Nat) ≠ 3 by decide), updV_ne (xs := xs) (show (12 : Nat) ≠ 3 by decide), updV_ne (xs := xs) (show (13 : Nat) ≠ 3 by decide)]; exact Hn.out)⟩
        focus
          obtain ⟨d3, _⟩ := hd
          obtain ⟨ρ, hρ⟩ : ∃ ρ, a'.eval = ρ := ⟨_, rfl⟩
          have hcst : ∀ v, ρ (.const v) = v := fun v => (congrFun hρ (.const v)).symm
          have v3 : ρ (.tmp 51) = .slice (some ⟨bs, oo, none⟩) n.offices.length co := (congrFun hρ (.tmp 51)).symm.trans ((HF.out.ev 3 rfl d3).trans (HVA.out 3 _ (by rw [HVV.out]; rfl) d3))
          rw [if_pos (by simp [Region.wanted])]
          unfold Oper.wp
          rw [hρ]
          clear hρ
          have H2 := Lib.hid h2
          have H3 := Lib.hid h3
          have H4 := Lib.hid h4
          have H5 := Lib.hid h5
          have Hn := Lib.hid hn
          clear h2 h3 h4 h5 hn
          go_simp
          exact hK.out _ _ ⟨HVA.out.set (i := 4) (by rw [HVV.out]; rfl), hb, (by simp only [upd_ne (L := L) (show (12 : Nat) ≠ 4 by decide), upd_ne (L := L) (show (13 : Nat) ≠ 4 by decide), upd_ne (L := L) (show (14 : Nat) ≠ 4 by decide), upd_ne (L := L) (show (15 : Nat) ≠ 4 by decide), updV_ne (xs := xs) (show (12 : Nat) ≠ 4 by decide), updV_ne (xs := xs) (show (13 : Nat) ≠ 4 by decide)]; exact H2.out), (by simp only [upd_ne (L := L) (show (12 : Nat) ≠ 4 by decide), upd_ne (L := L) (show (13 : Nat) ≠ 4 by decide), upd_ne (L := L) (show (14 : Nat) ≠ 4 by decide), upd_ne (L := L) (show (15 : Nat) ≠ 4 by decide), updV_ne (xs := xs) (show (12 : Nat) ≠ 4 by decide), updV_ne (xs := xs) (show (13 : Nat) ≠ 4 by decide)]; exact H3.out), (by simp only [upd_ne (L := L) (show (12 : Nat) ≠ 4 by decide), upd_ne (L := L) (show (13 : Nat) ≠ 4 by decide), upd_ne (L := L) (show (14 : Nat) ≠ 4 by decide), upd_ne (L := L) (show (15 : Nat) ≠ 4 by decide), updV_ne (xs := xs) (show (12 : Nat) ≠ 4 by decide), updV_ne (xs := xs) (show (13 : Nat) ≠ 4 by decide)]; exact H4.out), (by simp only [upd_ne (L := L) (show (12 : Nat) ≠ 4 by decide), upd_ne (L := L) (show (13 : Nat) ≠ 4 by decide), upd_ne (L := L) (show (14 : Nat) ≠ 4 by decide), upd_ne (L := L) (show (15 : Nat) ≠ 4 by decide), updV_ne (xs := xs) (show (12 : Nat) ≠ 4 by decide), updV_ne (xs := xs) (show (13 : Nat) ≠ 4 by decide)]; exact H5.out), (by simp only [upd_ne (L := L) (show (12 : Nat) ≠ 4 by decide), upd_ne (L := L) (show (13 : Nat) ≠ 4 by decide), upd_ne (L := L) (show (14 : Nat) ≠ 4 by decide), upd_ne (L := L) (show (15 : Nat) ≠ 4 by decide), updV_ne (xs := xs) (show (12 : Nat) ≠ 4 by decide), updV_ne (xs := xs) (show (13 : Nat) ≠ 4 by decide)]; exact Hn.out)⟩
        focus
          obtain ⟨d1, d4, _⟩ := hd
          obtain ⟨ρ, hρ⟩ : ∃ ρ, a'.eval = ρ := ⟨_, rfl⟩
          have hcst : ∀ v, ρ (.const v) = v := fun v => (congrFun hρ (.const v)).symm
          have v1 : ρ (.tmp 49) = .int .i64 (ta : Int) := (congrFun hρ (.tmp 49)).symm.trans ((HF.out.ev 1 rfl d1).trans (HVA.out 1 _ (by rw [HVV.out]; rfl) d1))
          have v4 : ρ (.tmp 52) = .int .i64 (n.offices.length : Int) := (congrFun hρ (.tmp 52)).symm.trans ((HF.out.ev 4 rfl d4).trans (HVA.out 4 _ (by rw [HVV.out]; rfl) d4))
          rw [if_pos (by simp [Region.wanted])]
          unfold Oper.wp
          rw [hρ]
          clear hρ
          have H2 := Lib.hid h2
          have H3 := Lib.hid h3
          have H4 := Lib.hid h4
          have H5 := Lib.hid h5
          have Hn := Lib.hid hn
          clear h2 h3 h4 h5 hn
          obtain ⟨r1, r2⟩ := HRI.out
          have hz0 := HMZ.out
          go_simp
          exact hK.out _ _ ⟨HVA.out.set (i := 5) (by rw [HVV.out]; rfl), hb, (by simp only [upd_ne (L := L) (show (12 : Nat) ≠ 5 by decide), upd_ne (L := L) (show (13 : Nat) ≠ 5 by decide), upd_ne (L := L) (show (14 : Nat) ≠ 5 by decide), upd_ne (L := L) (show (15 : Nat) ≠ 5 by decide), updV_ne (xs := xs) (show (12 : Nat) ≠ 5 by decide), updV_ne (xs := xs) (show (13 : Nat) ≠ 5 by decide)]; exact H2.out), (by simp only [upd_ne (L := L) (show (12 : Nat) ≠ 5 by decide), upd_ne (L := L) (show (13 : Nat) ≠ 5 by decide), upd_ne (L := L) (show (14 : Nat) ≠ 5 by decide), upd_ne (L := L) (show (15 : Nat) ≠ 5 by decide), updV_ne (xs := xs) (show (12 : Nat) ≠ 5 by decide), updV_ne (xs := xs) (show (13 : Nat) ≠ 5 by decide)]; exact H3.out), (by simp only [upd_ne (L := L) (show (12 : Nat) ≠ 5 by decide), upd_ne (L := L) (show (13 : Nat) ≠ 5 by decide), upd_ne (L := L) (show (14 : Nat) ≠ 5 by decide), upd_ne (L := L) (show (15 : Nat) ≠ 5 by decide), updV_ne (xs := xs) (show (12 : Nat) ≠ 5 by decide), updV_ne (xs := xs) (show (13 : Nat) ≠ 5 by decide)]; exact H4.out), (by simp only [upd_ne (L := L) (show (12 : Nat) ≠ 5 by decide), upd_ne (L := L) (show (13 : Nat) ≠ 5 by decide), upd_ne (L := L) (show (14 : Nat) ≠ 5 by decide), upd_ne (L := L) (show (15 : Nat) ≠ 5 by decide), updV_ne (xs := xs) (show (12 : Nat) ≠ 5 by decide), updV_ne (xs := xs) (show (13 : Nat) ≠ 5 by decide)]; exact H5.out), (by simp only [upd_ne (L := L) (show (12 : Nat) ≠ 5 by decide), upd_ne (L := L) (show (13 : Nat) ≠ 5 by decide), upd_ne (L := L) (show (14 : Nat) ≠ 5 by decide), upd_ne (L := L) (show (15 : Nat) ≠ 5 by decide), updV_ne (xs := xs) (show (12 : Nat) ≠ 5 by decide), updV_ne (xs := xs) (show (13 : Nat) ≠ 5 by decide)]; exact Hn.out)⟩
        focus
          clear hd
          obtain ⟨ρ, hρ⟩ : ∃ ρ, a'.eval = ρ := ⟨_, rfl⟩
          have hcst : ∀ v, ρ (.const v) = v := fun v => (congrFun hρ (.const v)).symm
          have l3 : ρ (.tmp 3) = .int .u8 (tb : Int) := (congrFun hρ (.tmp 3)).symm.trans (HF.out.lo 3 rfl)
          rw [if_pos (by simp [Region.wanted])]
          unfold Oper.wp
          rw [hρ]
          clear hρ
          have H2 := Lib.hid h2
          have H3 := Lib.hid h3
          have H4 := Lib.hid h4
          have H5 := Lib.hid h5
          have Hn := Lib.hid hn
          clear h2 h3 h4 h5 hn
          go_simp
          exact hK.out _ _ ⟨HVA.out.set (i := 6) (by rw [HVV.out]; rfl), hb, (by simp only [upd_ne (L := L) (show (12 : Nat) ≠ 6 by decide), upd_ne (L := L) (show (13 : Nat) ≠ 6 by decide), upd_ne (L := L) (show (14 : Nat) ≠ 6 by decide), upd_ne (L := L) (show (15 : Nat) ≠ 6 by decide), updV_ne (xs := xs) (show (12 : Nat) ≠ 6 by decide), updV_ne (xs := xs) (show (13 : Nat) ≠ 6 by decide)]; exact H2.out), (by simp only [upd_ne (L := L) (show (12 : Nat) ≠ 6 by decide), upd_ne (L := L) (show (13 : Nat) ≠ 6 by decide), upd_ne (L := L) (show (14 : Nat) ≠ 6 by decide), upd_ne (L := L) (show (15 : Nat) ≠ 6 by decide), updV_ne (xs := xs) (show (12 : Nat) ≠ 6 by decide), updV_ne (xs := xs) (show (13 : Nat) ≠ 6 by decide)]; exact H3.out), (by simp only [upd_ne (L := L) (show (12 : Nat) ≠ 6 by decide), upd_ne (L := L) (show (13 : Nat) ≠ 6 by decide), upd_ne (L := L) (show (14 : Nat) ≠ 6 by decide), upd_ne (L := L) (show (15 : Nat) ≠ 6 by decide), updV_ne (xs := xs) (show (12 : Nat) ≠ 6 by decide), updV_ne (xs := xs) (show (13 : Nat) ≠ 6 by decide)]; exact H4.out), (by simp only [upd_ne (L := L) (show (12 : Nat) ≠ 6 by decide), upd_ne (L := L) (show (13 : Nat) ≠ 6 by decide), upd_ne (L := L) (show (14 : Nat) ≠ 6 by decide), upd_ne (L := L) (show (15 : Nat) ≠ 6 by decide), updV_ne (xs := xs) (show (12 : Nat) ≠ 6 by decide), updV_ne (xs := xs) (show (13 : Nat) ≠ 6 by decide)]; exact H5.out), (by simp only [upd_ne (L := L) (show (12 : Nat) ≠ 6 by decide), upd_ne (L := L) (show (13 : Nat) ≠ 6 by decide), upd_ne (L := L) (show (14 : Nat) ≠ 6 by decide), upd_ne (L := L) (show (15 : Nat) ≠ 6 by decide), updV_ne (xs := xs) (show (12 : Nat) ≠ 6 by decide), updV_ne (xs := xs) (show (13 : Nat) ≠ 6 by decide)]; exact Hn.out)⟩
        focus
          obtain ⟨d6, _⟩ := hd
          obtain ⟨ρ, hρ⟩ : ∃ ρ, a'.eval = ρ := ⟨_, rfl⟩
          have hcst : ∀ v, ρ (.const v) = v := fun v => (congrFun hρ (.const v)).symm
          have v6 : ρ (.tmp 54) = .int .u8 (tb : Int) := (congrFun hρ (.tmp 54)).symm.trans ((HF.out.ev 6 rfl d6).trans (HVA.out 6 _ (by rw [HVV.out]; rfl) d6))
          rw [if_pos (by simp [Region.wanted])]
          unfold Oper.wp
          rw [hρ]
          clear hρ
          have H2 := Lib.hid h2
          have H3 := Lib.hid h3
          have H4 := Lib.hid h4
          have H5 := Lib.hid h5
          have Hn := Lib.hid hn
          clear h2 h3 h4 h5 hn
          have hw1 : IntKind.i64.wrap (tb : Int) = (tb : Int) := by rw [IntWalk.i64_in _ (by omega)]
          go_simp
          exact hK.out _ _ ⟨HVA.out.set (i := 7) (by rw [HVV.out]; rfl), hb, (by simp only [upd_ne (L := L) (show (12 : Nat) ≠ 7 by decide), upd_ne (L := L) (show (13 : Nat) ≠ 7 by decide), upd_ne (L := L) (show (14 : Nat) ≠ 7 by decide), upd_ne (L := L) (show (15 : Nat) ≠ 7 by decide), updV_ne (xs := xs) (show (12 : Nat) ≠ 7 by decide), updV_ne (xs := xs) (show (13 : Nat) ≠ 7 by decide)]; exact H2.out), (by simp only [upd_ne (L := L) (show (12 : Nat) ≠ 7 by decide), upd_ne (L := L) (show (13 : Nat) ≠ 7 by decide), upd_ne (L := L) (show (14 : Nat) ≠ 7 by decide), upd_ne (L := L) (show (15 : Nat) ≠ 7 by decide), updV_ne (xs := xs) (show (12 : Nat) ≠ 7 by decide), updV_ne (xs := xs) (show (13 : Nat) ≠ 7 by decide)]; exact H3.out), (by simp only [upd_ne (L := L) (show (12 : Nat) ≠ 7 by decide), upd_ne (L := L) (show (13 : Nat) ≠ 7 by decide), upd_ne (L := L) (show (14 : Nat) ≠ 7 by decide), upd_ne (L := L) (show (15 : Nat) ≠ 7 by decide), updV_ne (xs := xs) (show (12 : Nat) ≠ 7 by decide), updV_ne (xs := xs) (show (13 : Nat) ≠ 7 by decide)]; exact H4.out), (by simp only [upd_ne (L := L) (show (12 : Nat) ≠ 7 by decide), upd_ne (L := L) (show (13 : Nat) ≠ 7 by decide), upd_ne (L := L) (show (14 : Nat) ≠ 7 by decide), upd_ne (L := L) (show (15 : Nat) ≠ 7 by decide), updV_ne (xs := xs) (show (12 : Nat) ≠ 7 by decide), updV_ne (xs := xs) (show (13 : Nat) ≠ 7 by decide)]; exact H5.out), (by simp only [upd_ne (L := L) (show (12 : Nat) ≠ 7 by decide), upd_ne (L := L) (show (13 : Nat) ≠ 7 by decide), upd_ne (L := L) (show (14 : Nat) ≠ 7 by decide), upd_ne (L := L) (show (15 : Nat) ≠ 7 by decide), updV_ne (xs := xs) (show (12 : Nat) ≠ 7 by decide), updV_ne (xs := xs) (show (13 : Nat) ≠ 7 by decide)]; exact Hn.out)⟩
        focus
          clear hd
          obtain ⟨ρ, hρ⟩ : ∃ ρ, a'.eval = ρ := ⟨_, rfl⟩
          have hcst : ∀ v, ρ (.const v) = v := fun v => (congrFun hρ (.const v)).symm
          have l4 : ρ (.tmp 4) = .pointer (some ⟨b0, 0, none⟩) := (congrFun hρ (.tmp 4)).symm.trans (HF.out.lo 4 rfl)
          rw [if_pos (by simp [Region.wanted])]
          unfold Oper.wp
          rw [hρ]
          clear hρ
          have H2 := Lib.hid h2
          have H3 := Lib.hid h3
          have H4 := Lib.hid h4
          have H5 := Lib.hid h5
          have Hn := Lib.hid hn
          clear h2 h3 h4 h5 hn
          go_simp
          exact hK.out _ _ ⟨HVA.out.set (i := 8) (by rw [HVV.out]; rfl), hb, (by simp only [upd_ne (L := L) (show (12 : Nat) ≠ 8 by decide), upd_ne (L := L) (show (13 : Nat) ≠ 8 by decide), upd_ne (L := L) (show (14 : Nat) ≠ 8 by decide), upd_ne (L := L) (show (15 : Nat) ≠ 8 by decide), updV_ne (xs := xs) (show (12 : Nat) ≠ 8 by decide), updV_ne (xs := xs) (show (13 : Nat) ≠ 8 by decide)]; exact H2.out), (by simp only [upd_ne (L := L) (show (12 : Nat) ≠ 8 by decide), upd_ne (L := L) (show (13 : Nat) ≠ 8 by decide), upd_ne (L := L) (show (14 : Nat) ≠ 8 by decide), upd_ne (L := L) (show (15 : Nat) ≠ 8 by decide), updV_ne (xs := xs) (show (12 : Nat) ≠ 8 by decide), updV_ne (xs := xs) (show (13 : Nat) ≠ 8 by decide)]; exact H3.out), (by simp only [upd_ne (L := L) (show (12 : Nat) ≠ 8 by decide), upd_ne (L := L) (show (13 : Nat) ≠ 8 by decide), upd_ne (L := L) (show (14 : Nat) ≠ 8 by decide), upd_ne (L := L) (show (15 : Nat) ≠ 8 by decide), updV_ne (xs := xs) (show (12 : Nat) ≠ 8 by decide), updV_ne (xs := xs) (show (13 : Nat) ≠ 8 by decide)]; exact H4.out), (by simp only [upd_ne (L := L) (show (12 : Nat) ≠ 8 by decide), upd_ne (L := L) (show (13 : Nat) ≠ 8 by decide), upd_ne (L := L) (show (14 : Nat) ≠ 8 by decide), upd_ne (L := L) (show (15 : Nat) ≠ 8 by decide), updV_ne (xs := xs) (show (12 : Nat) ≠ 8 by decide), updV_ne (xs := xs) (show (13 : Nat) ≠ 8 by decide)]; exact H5.out), (by simp only [upd_ne (L := L) (show (12 : Nat) ≠ 8 by decide), upd_ne (L := L) (show (13 : Nat) ≠ 8 by decide), upd_ne (L := L) (show (14 : Nat) ≠ 8 by decide), upd_ne (L := L) (show (15 : Nat) ≠ 8 by decide), updV_ne (xs := xs) (show (12 : Nat) ≠ 8 by decide), updV_ne (xs := xs) (show (13 : Nat) ≠ 8 by decide)]; exact Hn.out)⟩
        focus
          obtain ⟨d8, _⟩ := hd
          obtain ⟨ρ, hρ⟩ : ∃ ρ, a'.eval = ρ := ⟨_, rfl⟩
          have hcst : ∀ v, ρ (.const v) = v := fun v => (congrFun hρ (.const v)).symm
          have v8 : ρ (.tmp 56) = .pointer (some ⟨b0, 0, none⟩) := (congrFun hρ (.tmp 56)).symm.trans ((HF.out.ev 8 rfl d8).trans (HVA.out 8 _ (by rw [HVV.out]; rfl) d8))
          rw [if_pos (by simp [Region.wanted])]
          unfold Oper.wp
          rw [hρ]
          clear hρ
          have H2 := Lib.hid h2
          have H3 := Lib.hid h3
          have H4 := Lib.hid h4
          have H5 := Lib.hid h5
          have Hn := Lib.hid hn
          clear h2 h3 h4 h5 hn
          obtain ⟨x0, x1, x2, x3⟩ := HNK.out _ (HB12.out.trans (hb.mono HB12.out.size))
          go_simp
          exact hK.out _ _ ⟨HVA.out.set (i := 9) (by rw [HVV.out]; rfl), hb, (by simp only [upd_ne (L := L) (show (12 : Nat) ≠ 9 by decide), upd_ne (L := L) (show (13 : Nat) ≠ 9 by decide), upd_ne (L := L) (show (14 : Nat) ≠ 9 by decide), upd_ne (L := L) (show (15 : Nat) ≠ 9 by decide), updV_ne (xs := xs) (show (12 : Nat) ≠ 9 by decide), updV_ne (xs := xs) (show (13 : Nat) ≠ 9 by decide)]; exact H2.out), (by simp only [upd_ne (L := L) (show (12 : Nat) ≠ 9 by decide), upd_ne (L := L) (show (13 : Nat) ≠ 9 by decide), upd_ne (L := L) (show (14 : Nat) ≠ 9 by decide), upd_ne (L := L) (show (15 : Nat) ≠ 9 by decide), updV_ne (xs := xs) (show (12 : Nat) ≠ 9 by decide), updV_ne (xs := xs) (show (13 : Nat) ≠ 9 by decide)]; exact H3.out), (by simp only [upd_ne (L := L) (show (12 : Nat) ≠ 9 by decide), upd_ne (L := L) (show (13 : Nat) ≠ 9 by decide), upd_ne (L := L) (show (14 : Nat) ≠ 9 by decide), upd_ne (L := L) (show (15 : Nat) ≠ 9 by decide), updV_ne (xs := xs) (show (12 : Nat) ≠ 9 by decide), updV_ne (xs := xs) (show (13 : Nat) ≠ 9 by decide)]; exact H4.out), (by simp only [upd_ne (L := L) (show (12 : Nat) ≠ 9 by decide), upd_ne (L := L) (show (13 : Nat) ≠ 9 by decide), upd_ne (L := L) (show (14 : Nat) ≠ 9 by decide), upd_ne (L := L) (show (15 : Nat) ≠ 9 by decide), updV_ne (xs := xs) (show (12 : Nat) ≠ 9 by decide), updV_ne (xs := xs) (show (13 : Nat) ≠ 9 by decide)]; exact H5.out), (by simp only [upd_ne (L := L) (show (12 : Nat) ≠ 9 by decide), upd_ne (L := L) (show (13 : Nat) ≠ 9 by decide), upd_ne (L := L) (show (14 : Nat) ≠ 9 by decide), upd_ne (L := L) (show (15 : Nat) ≠ 9 by decide), updV_ne (xs := xs) (show (12 : Nat) ≠ 9 by decide), updV_ne (xs := xs) (show (13 : Nat) ≠ 9 by decide)]; exact Hn.out)⟩
        focus
          obtain ⟨d9, _⟩ := hd
          obtain ⟨ρ, hρ⟩ : ∃ ρ, a'.eval = ρ := ⟨_, rfl⟩
          have hcst : ∀ v, ρ (.const v) = v := fun v => (congrFun hρ (.const v)).symm
          have v9 : ρ (.tmp 57) = .slice (some ⟨bs, oo, none⟩) n.offices.length co := (congrFun hρ (.tmp 57)).symm.trans ((HF.out.ev 9 rfl d9).trans (HVA.out 9 _ (by rw [HVV.out]; rfl) d9))
          rw [if_pos (by simp [Region.wanted])]
          unfold Oper.wp
          rw [hρ]
          clear hρ
          have H2 := Lib.hid h2
          have H3 := Lib.hid h3
          have H4 := Lib.hid h4
          have H5 := Lib.hid h5
          have Hn := Lib.hid hn
          clear h2 h3 h4 h5 hn
          go_simp
          exact hK.out _ _ ⟨HVA.out.set (i := 10) (by rw [HVV.out]; rfl), hb, (by simp only [upd_ne (L := L) (show (12 : Nat) ≠ 10 by decide), upd_ne (L := L) (show (13 : Nat) ≠ 10 by decide), upd_ne (L := L) (show (14 : Nat) ≠ 10 by decide), upd_ne (L := L) (show (15 : Nat) ≠ 10 by decide), updV_ne (xs := xs) (show (12 : Nat) ≠ 10 by decide), updV_ne (xs := xs) (show (13 : Nat) ≠ 10 by decide)]; exact H2.out), (by simp only [upd_ne (L := L) (show (12 : Nat) ≠ 10 by decide), upd_ne (L := L) (show (13 : Nat) ≠ 10 by decide), upd_ne (L := L) (show (14 : Nat) ≠ 10 by decide), upd_ne (L := L) (show (15 : Nat) ≠ 10 by decide), updV_ne (xs := xs) (show (12 : Nat) ≠ 10 by decide), updV_ne (xs := xs) (show (13 : Nat) ≠ 10 by decide)]; exact H3.out), (by simp only [upd_ne (L := L) (show (12 : Nat) ≠ 10 by decide), upd_ne (L := L) (show (13 : Nat) ≠ 10 by decide), upd_ne (L := L) (show (14 : Nat) ≠ 10 by decide), upd_ne (L := L) (show (15 : Nat) ≠ 10 by decide), updV_ne (xs := xs) (show (12 : Nat) ≠ 10 by decide), updV_ne (xs := xs) (show (13 : Nat) ≠ 10 by decide)]; exact H4.out), (by simp only [upd_ne (L := L) (show (12 : Nat) ≠ 10 by decide), upd_ne (L := L) (show (13 : Nat) ≠ 10 by decide), upd_ne (L := L) (show (14 : Nat) ≠ 10 by decide), upd_ne (L := L) (show (15 : Nat) ≠ 10 by decide), updV_ne (xs := xs) (show (12 : Nat) ≠ 10 by decide), updV_ne (xs := xs) (show (13 : Nat) ≠ 10 by decide)]; exact H5.out), (by simp only [upd_ne (L := L) (show (12 : Nat) ≠ 10 by decide), upd_ne (L := L) (show (13 : Nat) ≠ 10 by decide), upd_ne (L := L) (show (14 : Nat) ≠ 10 by decide), upd_ne (L := L) (show (15 : Nat) ≠ 10 by decide), updV_ne (xs := xs) (show (12 : Nat) ≠ 10 by decide), updV_ne (xs := xs) (show (13 : Nat) ≠ 10 by decide)]; exact Hn.out)⟩
        focus
          obtain ⟨d7, d10, _⟩ := hd
          obtain ⟨ρ, hρ⟩ : ∃ ρ, a'.eval = ρ := ⟨_, rfl⟩
          have hcst : ∀ v, ρ (.const v) = v := fun v => (congrFun hρ (.const v)).symm
          have v7 : ρ (.tmp 55) = .int .i64 (tb : Int) := (congrFun hρ (.tmp 55)).symm.trans ((HF.out.ev 7 rfl d7).trans (HVA.out 7 _ (by rw [HVV.out]; rfl) d7))
          have v10 : ρ (.tmp 58) = .int .i64 (n.offices.length : Int) := (congrFun hρ (.tmp 58)).symm.trans ((HF.out.ev 10 rfl d10).trans (HVA.out 10 _ (by rw [HVV.out]; rfl) d10))
          rw [if_pos (by simp [Region.wanted])]
          unfold Oper.wp
          rw [hρ]
          clear hρ
          have H2 := Lib.hid h2
          have H3 := Lib.hid h3
          have H4 := Lib.hid h4
          have H5 := Lib.hid h5
          have Hn := Lib.hid hn
          clear h2 h3 h4 h5 hn
          obtain ⟨r1, r2⟩ := HRJ.out
          have hz0 := HMZ.out
          go_simp
          exact hK.out _ _ ⟨HVA.out.set (i := 11) (by rw [HVV.out]; rfl), hb, (by simp only [upd_ne (L := L) (show (12 : Nat) ≠ 11 by decide), upd_ne (L := L) (show (13 : Nat) ≠ 11 by decide), upd_ne (L := L) (show (14 : Nat) ≠ 11 by decide), upd_ne (L := L) (show (15 : Nat) ≠ 11 by decide), updV_ne (xs := xs) (show (12 : Nat) ≠ 11 by decide), updV_ne (xs := xs) (show (13 : Nat) ≠ 11 by decide)]; exact H2.out), (by simp only [upd_ne (L := L) (show (12 : Nat) ≠ 11 by decide), upd_ne (L := L) (show (13 : Nat) ≠ 11 by decide), upd_ne (L := L) (show (14 : Nat) ≠ 11 by decide), upd_ne (L := L) (show (15 : Nat) ≠ 11 by decide), updV_ne (xs := xs) (show (12 : Nat) ≠ 11 by decide), updV_ne (xs := xs) (show (13 : Nat) ≠ 11 by decide)]; exact H3.out), (by simp only [upd_ne (L := L) (show (12 : Nat) ≠ 11 by decide), upd_ne (L := L) (show (13 : Nat) ≠ 11 by decide), upd_ne (L := L) (show (14 : Nat) ≠ 11 by decide), upd_ne (L := L) (show (15 : Nat) ≠ 11 by decide), updV_ne (xs := xs) (show (12 : Nat) ≠ 11 by decide), updV_ne (xs := xs) (show (13 : Nat) ≠ 11 by decide)]; exact H4.out), (by simp only [upd_ne (L := L) (show (12 : Nat) ≠ 11 by decide), upd_ne (L := L) (show (13 : Nat) ≠ 11 by decide), upd_ne (L := L) (show (14 : Nat) ≠ 11 by decide), upd_ne (L := L) (show (15 : Nat) ≠ 11 by decide), updV_ne (xs := xs) (show (12 : Nat) ≠ 11 by decide), updV_ne (xs := xs) (show (13 : Nat) ≠ 11 by decide)]; exact H5.out), (by simp only [upd_ne (L := L) (show (12 : Nat) ≠ 11 by decide), upd_ne (L := L) (show (13 : Nat) ≠ 11 by decide), upd_ne (L := L) (show (14 : Nat) ≠ 11 by decide), upd_ne (L := L) (show (15 : Nat) ≠ 11 by decide), updV_ne (xs := xs) (show (12 : Nat) ≠ 11 by decide), updV_ne (xs := xs) (show (13 : Nat) ≠ 11 by decide)]; exact Hn.out)⟩
        focus
          clear hd
          obtain ⟨ρ, hρ⟩ : ∃ ρ, a'.eval = ρ := ⟨_, rfl⟩
          have hcst : ∀ v, ρ (.const v) = v := fun v => (congrFun hρ (.const v)).symm
          rw [if_pos (by simp [Region.wanted])]
          unfold Oper.wp
          rw [hρ]
          clear hρ
          have H2 := Lib.hid h2
          have H3 := Lib.hid h3
          have H4 := Lib.hid h4
          have H5 := Lib.hid h5
          have Hn := Lib.hid hn
          clear h2 h3 h4 h5 hn
          have HBN := Lib.hid (box_below' w' (.cells #[.int .i64 0] 3))
          have HCN := Lib.hid (CellsN.new w' #[.int .i64 0] 3)
          go_simp
          exact hK.out _ _ ⟨HVA.out.free (i := 12) (by rw [HVV.out]; rfl) _, hb.trans (HBN.out.mono hb.size), (fun _ => ⟨w'.heap.size, updV_self _ _ _, hb.size, (fun _ => HCN.out), (fun h => by simp only [upd_ne (L := L) (show (13 : Nat) ≠ 12 by decide), upd_ne (L := L) (show (14 : Nat) ≠ 12 by decide), upd_ne (L := L) (show (15 : Nat) ≠ 12 by decide), updV_ne (xs := xs) (show (13 : Nat) ≠ 12 by decide)] at h; have := (H4.out h).1; rw [HLI.out] at this; cases this)⟩), (fun h => by
              simp only [upd_ne (L := L) (show (13 : Nat) ≠ 12 by decide), upd_ne (L := L) (show (14 : Nat) ≠ 12 by decide), upd_ne (L := L) (show (15 : Nat) ≠ 12 by decide), updV_ne (xs := xs) (show (13 : Nat) ≠ 12 by decide)] at h ⊢
              obtain ⟨g, e, hg, h1, h2⟩ := H3.out h
              exact ⟨g, e, hg, fun q => (h1 q).ext HBN.out, fun q => (h2 q).ext HBN.out⟩), (fun h => by
              simp only [upd_ne (L := L) (show (13 : Nat) ≠ 12 by decide), upd_ne (L := L) (show (14 : Nat) ≠ 12 by decide), upd_ne (L := L) (show (15 : Nat) ≠ 12 by decide), updV_ne (xs := xs) (show (13 : Nat) ≠ 12 by decide)] at h
              have := (H4.out h).1
              rw [HLI.out] at this
              cases this), (by simp only [upd_ne (L := L) (show (13 : Nat) ≠ 12 by decide), upd_ne (L := L) (show (14 : Nat) ≠ 12 by decide), upd_ne (L := L) (show (15 : Nat) ≠ 12 by decide), updV_ne (xs := xs) (show (13 : Nat) ≠ 12 by decide)]; exact H5.out), (fun h h' => by
              simp only [upd_ne (L := L) (show (13 : Nat) ≠ 12 by decide), upd_ne (L := L) (show (14 : Nat) ≠ 12 by decide), upd_ne (L := L) (show (15 : Nat) ≠ 12 by decide), updV_ne (xs := xs) (show (13 : Nat) ≠ 12 by decide), updV_self] at h h' ⊢
              obtain ⟨g, e, hg, h1, h2⟩ := H3.out h'
              have hlt : g < w'.heap.size := by
                cases hq : L 15 with
                | false => exact (h1 hq).lt
                | true => exact (h2 hq).lt
              rw [e]
              intro he
              injection he with he
              injection he with he
              injection he with he
              omega)⟩
        focus
          clear hd
          obtain ⟨ρ, hρ⟩ : ∃ ρ, a'.eval = ρ := ⟨_, rfl⟩
          have hcst : ∀ v, ρ (.const v) = v := fun v => (congrFun hρ (.const v)).symm
          rw [if_pos (by simp [Region.wanted])]
          unfold Oper.wp
          rw [hρ]
          clear hρ
          have H2 := Lib.hid h2
          have H3 := Lib.hid h3
          have H4 := Lib.hid h4
          have H5 := Lib.hid h5
          have Hn := Lib.hid hn
          clear h2 h3 h4 h5 hn
          have HBN := Lib.hid (box_below' w' (.cells #[.int .i64 0] 3))
          have HCN := Lib.hid (CellsN.new w' #[.int .i64 0] 3)
          go_simp
          exact hK.out _ _ ⟨HVA.out.free (i := 13) (by rw [HVV.out]; rfl) _, hb.trans (HBN.out.mono hb.size), (fun h => by
              simp only [upd_ne (L := L) (show (12 : Nat) ≠ 13 by decide), upd_ne (L := L) (show (14 : Nat) ≠ 13 by decide), upd_ne (L := L) (show (15 : Nat) ≠ 13 by decide), updV_ne (xs := xs) (show (12 : Nat) ≠ 13 by decide)] at h ⊢
              obtain ⟨g, e, hg, h1, h2⟩ := H2.out h
              exact ⟨g, e, hg, fun q => (h1 q).ext HBN.out, fun q => (h2 q).ext HBN.out⟩), (fun _ => ⟨w'.heap.size, updV_self _ _ _, hb.size, (fun _ => HCN.out), (fun h => by simp only [upd_ne (L := L) (show (12 : Nat) ≠ 13 by decide), upd_ne (L := L) (show (14 : Nat) ≠ 13 by decide), upd_ne (L := L) (show (15 : Nat) ≠ 13 by decide), updV_ne (xs := xs) (show (12 : Nat) ≠ 13 by decide)] at h; have := H5.out h; rw [HLI.out] at this; cases this)⟩), (fun h => by
              simp only [upd_ne (L := L) (show (12 : Nat) ≠ 13 by decide), upd_ne (L := L) (show (14 : Nat) ≠ 13 by decide), upd_ne (L := L) (show (15 : Nat) ≠ 13 by decide), updV_ne (xs := xs) (show (12 : Nat) ≠ 13 by decide)] at h
              have := (H4.out h).2
              rw [HLI.out] at this
              cases this), (fun h => by
              simp only [upd_ne (L := L) (show (12 : Nat) ≠ 13 by decide), upd_ne (L := L) (show (14 : Nat) ≠ 13 by decide), upd_ne (L := L) (show (15 : Nat) ≠ 13 by decide), updV_ne (xs := xs) (show (12 : Nat) ≠ 13 by decide)] at h
              have := H5.out h
              rw [HLI.out] at this
              cases this), (fun h h' => by
              simp only [upd_ne (L := L) (show (12 : Nat) ≠ 13 by decide), upd_ne (L := L) (show (14 : Nat) ≠ 13 by decide), upd_ne (L := L) (show (15 : Nat) ≠ 13 by decide), updV_ne (xs := xs) (show (12 : Nat) ≠ 13 by decide), updV_self] at h h' ⊢
              obtain ⟨g, e, hg, h1, h2⟩ := H2.out h
              have hlt : g < w'.heap.size := by
                cases hq : L 14 with
                | false => exact (h1 hq).lt
                | true => exact (h2 hq).lt
              rw [e]
              intro he
              injection he with he
              injection he with he
              injection he with he
              omega)⟩
        focus
          obtain ⟨d12, d5, d0, d1, d2, d3, d4, _, _, d13, _⟩ := hd
          obtain ⟨ρ, hρ⟩ : ∃ ρ, a'.eval = ρ := ⟨_, rfl⟩
          have hcst : ∀ v, ρ (.const v) = v := fun v => (congrFun hρ (.const v)).symm
          have v12 : ρ (.tmp 9) = xs 12 := (congrFun hρ (.tmp 9)).symm.trans (HF.out.ev 12 rfl d12)
          have v5 : ρ (.tmp 53) = .int .i64 (i : Int) := (congrFun hρ (.tmp 53)).symm.trans ((HF.out.ev 5 rfl d5).trans (HVA.out 5 _ (by rw [HVV.out]; rfl) d5))
          rw [if_pos (by simp [Region.wanted])]
          unfold Oper.wp
          rw [hρ]
          clear hρ
          have H2 := Lib.hid h2
          have H3 := Lib.hid h3
          have H4 := Lib.hid h4
          have H5 := Lib.hid h5
          have Hn := Lib.hid hn
          clear h2 h3 h4 h5 hn
          obtain ⟨g, e1, hg, h1, _⟩ := H2.out d12
          have hcz := h1 HLI.out
          have E1 := Lib.hid e1
          rw [e1] at v12
          clear e1 h1
          have hcs := hcz.set 0 (.int .i64 (i : Int))
          simp only [List.setIfInBounds_toArray, List.set_cons_zero] at hcs
          have HCS := Lib.hid hcs
          have HGR := Lib.hid (grown_setCell w' ⟨g, 0, none⟩ (.int .i64 (i : Int)))
          have HBS : Hid (Below W2.heap.size W2 (w'.setCell ⟨g, 0, none⟩ (.int .i64 (i : Int)))) := Lib.hid (hb.setCell (p := ⟨g, 0, none⟩) hg _)
          have c0 := hcz.cell 0
          have f0 := hcz.free 0
          simp at c0
          clear hcs
          go_simp
          exact hK.out _ _ ⟨HVA.out.free (i := 14) (by rw [HVV.out]; rfl) undef, HBS.out, (fun h => ⟨g, by rw [updV_ne (by decide)]; exact E1.out, hg, (fun q => by rw [upd_self] at q; cases q), (fun _ => HCS.out)⟩), (fun h => by
              simp only [upd_ne (L := L) (show (12 : Nat) ≠ 14 by decide), upd_ne (L := L) (show (13 : Nat) ≠ 14 by decide), upd_ne (L := L) (show (15 : Nat) ≠ 14 by decide), updV_ne (xs := xs) (show (12 : Nat) ≠ 14 by decide), updV_ne (xs := xs) (show (13 : Nat) ≠ 14 by decide)] at h ⊢
              obtain ⟨g', e', hg', h1, h2⟩ := H3.out h
              have hne : g' ≠ g := by
                rintro rfl
                exact Hn.out d12 h (by rw [E1.out, e'])
              exact ⟨g', e', hg', fun q => (h1 q).grown HGR.out (fun e => hne (Option.some.inj e)), fun q => (h2 q).grown HGR.out (fun e => hne (Option.some.inj e))⟩), (fun _ => by simp only [upd_ne (L := L) (show (12 : Nat) ≠ 14 by decide), upd_ne (L := L) (show (13 : Nat) ≠ 14 by decide), upd_ne (L := L) (show (15 : Nat) ≠ 14 by decide), updV_ne (xs := xs) (show (12 : Nat) ≠ 14 by decide), updV_ne (xs := xs) (show (13 : Nat) ≠ 14 by decide)]; exact ⟨d12, d13⟩), (by simp only [upd_ne (L := L) (show (12 : Nat) ≠ 14 by decide), upd_ne (L := L) (show (13 : Nat) ≠ 14 by decide), upd_ne (L := L) (show (15 : Nat) ≠ 14 by decide), updV_ne (xs := xs) (show (12 : Nat) ≠ 14 by decide), updV_ne (xs := xs) (show (13 : Nat) ≠ 14 by decide)]; exact H5.out), (by simp only [upd_ne (L := L) (show (12 : Nat) ≠ 14 by decide), upd_ne (L := L) (show (13 : Nat) ≠ 14 by decide), upd_ne (L := L) (show (15 : Nat) ≠ 14 by decide), updV_ne (xs := xs) (show (12 : Nat) ≠ 14 by decide), updV_ne (xs := xs) (show (13 : Nat) ≠ 14 by decide)]; exact Hn.out)⟩
        focus
          obtain ⟨d13, d11, d14, d0, d1, d2, d3, d4, d5, d6, d7, d8, d9, d10, _, d12, _, _, _⟩ := hd
          obtain ⟨ρ, hρ⟩ : ∃ ρ, a'.eval = ρ := ⟨_, rfl⟩
          have hcst : ∀ v, ρ (.const v) = v := fun v => (congrFun hρ (.const v)).symm
          have v13 : ρ (.tmp 10) = xs 13 := (congrFun hρ (.tmp 10)).symm.trans (HF.out.ev 13 rfl d13)
          have v11 : ρ (.tmp 59) = .int .i64 (j : Int) := (congrFun hρ (.tmp 59)).symm.trans ((HF.out.ev 11 rfl d11).trans (HVA.out 11 _ (by rw [HVV.out]; rfl) d11))
          rw [if_pos (by simp [Region.wanted])]
          unfold Oper.wp
          rw [hρ]
          clear hρ
          have H2 := Lib.hid h2
          have H3 := Lib.hid h3
          have H4 := Lib.hid h4
          have H5 := Lib.hid h5
          have Hn := Lib.hid hn
          clear h2 h3 h4 h5 hn
          obtain ⟨g, e1, hg, h1, _⟩ := H3.out d13
          have hcz := h1 HLI.out
          have E1 := Lib.hid e1
          rw [e1] at v13
          clear e1 h1
          have hcs := hcz.set 0 (.int .i64 (j : Int))
          simp only [List.setIfInBounds_toArray, List.set_cons_zero] at hcs
          have HCS := Lib.hid hcs
          have HGR := Lib.hid (grown_setCell w' ⟨g, 0, none⟩ (.int .i64 (j : Int)))
          have HBS : Hid (Below W2.heap.size W2 (w'.setCell ⟨g, 0, none⟩ (.int .i64 (j : Int)))) := Lib.hid (hb.setCell (p := ⟨g, 0, none⟩) hg _)
          have c0 := hcz.cell 0
          have f0 := hcz.free 0
          simp at c0
          clear hcs
          go_simp
          exact hK.out _ _ ⟨HVA.out.free (i := 15) (by rw [HVV.out]; rfl) undef, HBS.out, (fun h => by
              simp only [upd_ne (L := L) (show (12 : Nat) ≠ 15 by decide), upd_ne (L := L) (show (13 : Nat) ≠ 15 by decide), upd_ne (L := L) (show (14 : Nat) ≠ 15 by decide), updV_ne (xs := xs) (show (12 : Nat) ≠ 15 by decide), updV_ne (xs := xs) (show (13 : Nat) ≠ 15 by decide)] at h ⊢
              obtain ⟨g', e', hg', h1, h2⟩ := H2.out h
              have hne : g' ≠ g := by
                rintro rfl
                exact Hn.out h d13 (by rw [E1.out, e'])
              exact ⟨g', e', hg', fun q => (h1 q).grown HGR.out (fun e => hne (Option.some.inj e)), fun q => (h2 q).grown HGR.out (fun e => hne (Option.some.inj e))⟩), (fun h => ⟨g, by rw [updV_ne (by decide)]; exact E1.out, hg, (fun q => by rw [upd_self] at q; cases q), (fun _ => HCS.out)⟩), (by simp only [upd_ne (L := L) (show (12 : Nat) ≠ 15 by decide), upd_ne (L := L) (show (13 : Nat) ≠ 15 by decide), upd_ne (L := L) (show (14 : Nat) ≠ 15 by decide), updV_ne (xs := xs) (show (12 : Nat) ≠ 15 by decide), updV_ne (xs := xs) (show (13 : Nat) ≠ 15 by decide)]; exact H4.out), (fun _ => by simp only [upd_ne (L := L) (show (12 : Nat) ≠ 15 by decide), upd_ne (L := L) (show (13 : Nat) ≠ 15 by decide), upd_ne (L := L) (show (14 : Nat) ≠ 15 by decide), updV_ne (xs := xs) (show (12 : Nat) ≠ 15 by decide), updV_ne (xs := xs) (show (13 : Nat) ≠ 15 by decide)]; exact d13), (by simp only [upd_ne (L := L) (show (12 : Nat) ≠ 15 by decide), upd_ne (L := L) (show (13 : Nat) ≠ 15 by decide), upd_ne (L := L) (show (14 : Nat) ≠ 15 by decide), updV_ne (xs := xs) (show (12 : Nat) ≠ 15 by decide), updV_ne (xs := xs) (show (13 : Nat) ≠ 15 by decide)]; exact Hn.out)⟩
      focus
        intro L w' xs hL hJ
        obtain ⟨hv, hb, h2, h3, h4, h5, hn⟩ := hJ
        have e0 : xs 0 = .int .u8 (ta : Int) := hv 0 _ (by rw [HVV.out]; rfl) (hL 0 (by decide))
        have e1 : xs 1 = .int .i64 (ta : Int) := hv 1 _ (by rw [HVV.out]; rfl) (hL 1 (by decide))
        have e2 : xs 2 = .pointer (some ⟨b0, 0, none⟩) := hv 2 _ (by rw [HVV.out]; rfl) (hL 2 (by decide))
        have e3 : xs 3 = .slice (some ⟨bs, oo, none⟩) n.offices.length co := hv 3 _ (by rw [HVV.out]; rfl) (hL 3 (by decide))
        have e4 : xs 4 = .int .i64 (n.offices.length : Int) := hv 4 _ (by rw [HVV.out]; rfl) (hL 4 (by decide))
        have e5 : xs 5 = .int .i64 (i : Int) := hv 5 _ (by rw [HVV.out]; rfl) (hL 5 (by decide))
        have e6 : xs 6 = .int .u8 (tb : Int) := hv 6 _ (by rw [HVV.out]; rfl) (hL 6 (by decide))
        have e7 : xs 7 = .int .i64 (tb : Int) := hv 7 _ (by rw [HVV.out]; rfl) (hL 7 (by decide))
        have e8 : xs 8 = .pointer (some ⟨b0, 0, none⟩) := hv 8 _ (by rw [HVV.out]; rfl) (hL 8 (by decide))
        have e9 : xs 9 = .slice (some ⟨bs, oo, none⟩) n.offices.length co := hv 9 _ (by rw [HVV.out]; rfl) (hL 9 (by decide))
        have e10 : xs 10 = .int .i64 (n.offices.length : Int) := hv 10 _ (by rw [HVV.out]; rfl) (hL 10 (by decide))
        have e11 : xs 11 = .int .i64 (j : Int) := hv 11 _ (by rw [HVV.out]; rfl) (hL 11 (by decide))
        simp only [putGo, Act.put, List.setIfInBounds_toArray, List.set_cons_zero, List.set_cons_succ, e0, e1, e2, e3, e4, e5, e6, e7, e8, e9, e10, e11]
        clear hv e0 e1 e2 e3 e4 e5 e6 e7 e8 e9 e10 e11
        obtain ⟨p9, e2, hg8, _, hc8⟩ := h2 (hL 12 (by decide))
        obtain ⟨p10, e3, hg9, _, hc9⟩ := h3 (hL 13 (by decide))
        have hc8 := hc8 (hL 14 (by decide))
        have hc9 := hc9 (hL 15 (by decide))
        rw [e2, e3]
        have HB4 : Hid (Below W1.heap.size W1 w') := Lib.hid (HB12.out.trans (hb.mono HB12.out.size))
        have HC8 := Lib.hid hc8
        have HC9 := Lib.hid hc9
        clear hb h2 h3 h4 h5 hn e2 e3 hc8 hc9 hL
        obtain ⟨w4, rfl⟩ : ∃ W, W = w' := ⟨_, rfl⟩
        have hmf : ∀ (fn : Fn) (first cap : Array Value) (w : World), (Instr.makeFunc fn first cap).run Try.prog w = .ok (.func fn first cap) w := fun _ _ _ _ => rfl
        go_upto_region 7 with fail
        clear hmf
        obtain ⟨W5, hW5⟩ : ∃ W, w4.alloc (.cells #[.slice (some ⟨bs, oo, none⟩) n.offices.length co, .slice ap n.people.length cp, .slice ac n.classes.length cc, .slice ah n.homes.length ch] 25) = W := ⟨_, rfl⟩
        obtain ⟨p12, hp12⟩ : ∃ z, w4.heap.size = z := ⟨_, rfl⟩
        have HB5 : Hid (Below w4.heap.size w4 W5) := Lib.hid (by rw [← hW5]; exact box_below' _ _)
        have HN5 : Hid (CellsN W5 p12 #[.slice (some ⟨bs, oo, none⟩) n.offices.length co, .slice ap n.people.length cp, .slice ac n.classes.length cc, .slice ah n.homes.length ch]) := Lib.hid (by rw [← hW5, ← hp12]; exact CellsN.new _ _ _)
        have HB15 : Hid (Below W1.heap.size W1 W5) := Lib.hid (HB4.out.trans (HB5.out.mono HB4.out.size))
        have HW5 := Lib.hid hW5
        have HP12 := Lib.hid hp12
        have h9lt := HC8.out.lt
        have h10lt := HC9.out.lt
        have hn5 := HN5.out.lt
        clear hW5 hp12
        obtain ⟨x0, x1, x2, x3⟩ := HNK.out w4 HB4.out
        go_upto_region 8 with fail
        rw [HW5.out]
        try rw [HP12.out]
        clear x0 x1 x2 x3
        have HSRC : Hid (∀ W, Below W5.heap.size W5 W → SrcRecs 1 strR ([] : Str) W5.heap.size W (.slice (some ⟨bs, oo, none⟩) n.offices.length co) n.offices) := Lib.hid fun W hW => IsRecs.src strK (by decide) (IsRecs.below strK (HVK.out W5 HB15.out).o hW (Nat.le_refl _)) (Nat.le_refl _)
        have HMD := Lib.hid (OwnRecs.made (ty := 9) (k := 1) (R := strR) (L := 8796093022208) (d0 := ([] : Str)) (C := W5.heap.size) (w := W5) rfl (Nat.le_refl _))
        have hb0l : b0 < W5.heap.size := by have := HX1.out.1; have := HB15.out.size; omega
        obtain ⟨x0, x1, x2, x3⟩ := HNK.out W5 HB15.out
        go_wp2_with (at_builtin; refine append_recsA strK (by decide) str_inf Try.underlying22 rfl (by decide) (by decide) rfl (.tmp 62) (.tmp 64) rfl (C := W5.heap.size) (v := .slice (some ⟨W5.heap.size, 0, none⟩) 0 0) (vx := .slice (some ⟨bs, oo, none⟩) n.offices.length co) (xs := []) (ys := n.offices) rfl HMD.out rfl (HSRC.out _ (box_below' _ _)) (by simp; omega) (by simp) ?_; intro v6 w6 ho6 hg6 hat6; obtain ⟨a6, n6, c6, rfl⟩ := ho6.form'; have HO6 := Lib.hid ho6; have HG6 := Lib.hid hg6; have hn6 := (HN5.out.alloc (.cells #[] 9)).grown hg6 (fun e => by have e2 : some p12 = some W5.heap.size := e; have := Option.some.inj e2; omega); have HN6 := Lib.hid hn6; have q0 := hn6.cell 0; have f0 := hn6.free 0; simp at q0; clear ho6 hg6 hat6 hn6 x0 x1 x2 x3)
        obtain ⟨W7, hW7⟩ : ∃ W, w6.setCell ⟨p12, 0, none⟩ (.slice a6 n6 c6) = W := ⟨_, rfl⟩
        have hgr := grown_setCell w6 ⟨p12, 0, none⟩ (.slice a6 n6 c6)
        have hn7 := HN6.out.set 0 (.slice a6 n6 c6)
        simp only [List.setIfInBounds_toArray, List.set_cons_zero] at hn7
        rw [hW7] at hgr hn7
        have hb56 : Below W5.heap.size W5 w6 := ((box_below' W5 (.cells #[] 9))).grown HG6.out (by simp) (fun q e => by have e2 : W5.heap.size = q := Option.some.inj e; omega)
        have hb47 : Below w4.heap.size w4 W7 := (HB5.out.trans (hb56.mono HB5.out.size)).grown hgr (by have := HB5.out.size; have := hb56.size; omega) (fun q e => by have e2 : p12 = q := Option.some.inj e; have := HP12.out; omega)
        have HN7 := Lib.hid hn7
        have HB47 := Lib.hid hb47
        have hown7 : OwnStrs W5.heap.size W7 (.slice a6 n6 c6) n.offices := ownStrs_iff.2 (by
          obtain ⟨o1, o2, o3⟩ := ownStrs_iff.1 HO6.out
          have hlt := OwnRecs.lt HO6.out
          exact ⟨o1.kept hgr (.inr (fun e => by have := (hlt p12 e).1; omega)), o2, o3⟩)
        obtain ⟨g, cg, hv, hg1, hg2, hg3, hg4, hgc, hgs⟩ := OwnStrs.set hown7 (fun e => by rw [e] at him; simp at him)
        cases hv
        obtain ⟨si, hsi⟩ : ∃ s, strAt n.offices i = s := ⟨_, rfl⟩
        obtain ⟨sj, hsj⟩ : ∃ s, strAt n.offices j = s := ⟨_, rfl⟩
        have hli : si.length ≤ 140737488351232 := by rw [← hsi, strAt_get him]; exact (ownStrs_iff.1 hown7).2.2 _ (List.getElem_mem him)
        have hlj : sj.length ≤ 140737488351232 := by rw [← hsj, strAt_get hjm]; exact (ownStrs_iff.1 hown7).2.2 _ (List.getElem_mem hjm)
        have hcI := hgc i him
        have hcJ := hgc j hjm
        rw [hsi] at hcI
        rw [hsj] at hcJ
        have hownA := hgs i sj him hlj
        obtain ⟨g', cg', hv, _, _, _, _, hgcA, hgsA⟩ := OwnStrs.set hownA (fun e => by have := congrArg List.length e; simp at this; rw [this] at him; simp at him)
        simp only [List.length_set] at hv
        cases hv
        have hcJA := hgcA j (by simpa using hjm)
        have hownB := hgsA j si (by simpa using hjm) hli
        have hswap : (n.offices.set i sj).set j si = swapL n.offices i j := by unfold swapL; rw [hsi, hsj]
        rw [hswap] at hownB
        obtain ⟨WA, hWA⟩ : ∃ W, (W7.setCell ⟨g, i, none⟩ (strV sj)).drew = W := ⟨_, rfl⟩
        obtain ⟨WB, hWB⟩ : ∃ W, ((W7.setCell ⟨g, i, none⟩ (strV sj)).setCell ⟨g, j, none⟩ (strV si)).drew = W := ⟨_, rfl⟩
        have HWA := Lib.hid hWA
        have HWB := Lib.hid hWB
        have HCI := Lib.hid hcI
        have HCJ := Lib.hid hcJ
        have HCJA := Lib.hid hcJA
        have HOWB : Hid (OwnStrs W5.heap.size WB (.slice (some ⟨g, 0, none⟩) n.offices.length c6) (swapL n.offices i j)) := Lib.hid (by rw [← hWB]; exact hownB)
        have HBB : Hid (Below W5.heap.size W7 WB) := Lib.hid (by rw [← hWB]; exact below_drewL (((Below.refl _ _).setCell (p := ⟨g, i, none⟩) hg1 _).setCell (p := ⟨g, j, none⟩) hg1 _))
        have HBA : Hid (Below W5.heap.size W7 WA) := Lib.hid (by rw [← hWA]; exact below_drewL ((Below.refl _ _).setCell (p := ⟨g, i, none⟩) hg1 _))
        have HLD : Hid (∀ W, W = W7.drew ∨ W = WA → W.cell? ⟨p12, 0, none⟩ = some (.slice (some ⟨g, 0, none⟩) n.offices.length c6) ∧ W.cell? ⟨p9, 0, none⟩ = some (.int .i64 (i : Int)) ∧ W.cell? ⟨p10, 0, none⟩ = some (.int .i64 (j : Int))) := Lib.hid fun W hW => by
          have hbw : Below W5.heap.size W7 W := by
            rcases hW with rfl | rfl
            · exact (Below.refl _ _).drew
            · exact HBA.out
          refine ⟨(hbw.cell (p := ⟨p12, 0, none⟩) hn5).trans (HN7.out.cell 0), ?_, ?_⟩
          · exact (hbw.cell (p := ⟨p9, 0, none⟩) (by have := HB5.out.size; show p9 < _; omega)).trans ((hb47.cell (p := ⟨p9, 0, none⟩) h9lt).trans (HC8.out.cell 0))
          · exact (hbw.cell (p := ⟨p10, 0, none⟩) (by have := HB5.out.size; show p10 < _; omega)).trans ((hb47.cell (p := ⟨p10, 0, none⟩) h10lt).trans (HC9.out.cell 0))
        have HW7 := Lib.hid hW7
        have hii : (i : Int) < (n.offices.length : Int) := by omega
        have hi0 : (0 : Int) ≤ (i : Int) := by omega
        have hji : (j : Int) < (n.offices.length : Int) := by omega
        have hj0 : (0 : Int) ≤ (j : Int) := by omega
        clear hW7 hgr hn7 hb56 hb47 hown7 hgc hgs hcI hcJ hownA hgcA hgsA hcJA hownB hWA hWB hsi hsj hswap
        go_upto_region 9 with fail
        rw [HW7.out]
        try clear q0 f0
        obtain ⟨V, hV⟩ : ∃ V : List (Option Value), V = [some (.pointer (some ⟨p12, 0, none⟩)), some (.slice (some ⟨g, 0, none⟩) n.offices.length c6), some (.int .i64 (i : Int)), some (.pointer (some ⟨p12, 0, none⟩)), some (.slice (some ⟨g, 0, none⟩) n.offices.length c6), some (.int .i64 (j : Int)), some (.pointer (some ⟨p12, 0, none⟩)), some (.slice (some ⟨g, 0, none⟩) n.offices.length c6), some (.int .i64 (j : Int)), some (.pointer (some ⟨g, j, none⟩)), some (strV sj), some (.pointer (some ⟨p12, 0, none⟩)), some (.slice (some ⟨g, 0, none⟩) n.offices.length c6), some (.int .i64 (i : Int)), some (.pointer (some ⟨g, i, none⟩)), some (strV si), some (.pointer (some ⟨g, i, none⟩)), none, some (.pointer (some ⟨g, j, none⟩)), none] := ⟨_, rfl⟩
        have HVV := Lib.hid hV
        clear hV
        refine wp_region_V [some 67, some 68, some 69, some 70, some 71, some 72, some 73, some 74, some 75, some 76, some 77, some 78, some 79, some 80, some 81, some 82, some 83, none, some 84, none] (fun L w' xs => ValsAt V L xs ∧ ((L 17 = false ∧ L 19 = false ∧ w' = W7.drew) ∨ (L 17 = true ∧ L 19 = false ∧ L 10 = true ∧ L 15 = true ∧ w' = WA) ∨ (L 19 = true ∧ L 17 = true ∧ L 18 = true ∧ (∀ q, q < 17 → L q = true) ∧ w' = WB))) (by kernel_rfl) (by kernel_rfl) (by rfl) (by rfl) (by rfl) ?_ ?_ ?_
        focus
          exact fun xs => ⟨ValsAt.none _ _, Or.inl ⟨rfl, rfl, rfl⟩⟩
        focus
          refine ⟨?_, ?_, ?_, ?_, ?_, ?_, ?_, ?_, ?_, ?_, ?_, ?_, ?_, ?_, ?_, ?_, ?_, ?_, ?_, ?_, trivial⟩
          all_goals
            intro L a' w' xs hi hd hf hJ K hK
            obtain ⟨hv, hw⟩ := hJ
            have HF := Lib.hid hf
            have HVA := Lib.hid hv
            have HLI := Lib.hid hi
            clear hf hv hi
          focus
            clear hd
            obtain ⟨ρ, hρ⟩ : ∃ ρ, a'.eval = ρ := ⟨_, rfl⟩
            have hcst : ∀ v, ρ (.const v) = v := fun v => (congrFun hρ (.const v)).symm
            have l12 : ρ (.tmp 12) = .pointer (some ⟨p12, 0, none⟩) := (congrFun hρ (.tmp 12)).symm.trans (HF.out.lo 12 rfl)
            rw [if_pos (by simp [Region.wanted])]
            unfold Oper.wp
            rw [hρ]
            clear hρ
            rcases hw with ⟨h17, h19, hw⟩ | ⟨h17, h19, h10, h15, hw⟩ | ⟨_, _, _, h, _⟩
            rotate_left 2
            · have := h 0 (by decide); rw [HLI.out] at this; cases this
            focus
              subst hw
              go_simp
              exact hK.out _ _ ⟨HVA.out.set (i := 0) (by rw [HVV.out]; rfl), Or.inl ⟨by rw [upd_ne (by decide)]; exact h17, by rw [upd_ne (by decide)]; exact h19, rfl⟩⟩
            focus
              subst hw
              go_simp
              exact hK.out _ _ ⟨HVA.out.set (i := 0) (by rw [HVV.out]; rfl), Or.inr (Or.inl ⟨by rw [upd_ne (by decide)]; exact h17, by rw [upd_ne (by decide)]; exact h19, by rw [upd_ne (by decide)]; exact h10, by rw [upd_ne (by decide)]; exact h15, rfl⟩)⟩
          focus
            obtain ⟨d0, _⟩ := hd
            obtain ⟨ρ, hρ⟩ : ∃ ρ, a'.eval = ρ := ⟨_, rfl⟩
            have hcst : ∀ v, ρ (.const v) = v := fun v => (congrFun hρ (.const v)).symm
            have v0 : ρ (.tmp 67) = .pointer (some ⟨p12, 0, none⟩) := (congrFun hρ (.tmp 67)).symm.trans ((HF.out.ev 0 rfl d0).trans (HVA.out 0 _ (by rw [HVV.out]; rfl) d0))
            rw [if_pos (by simp [Region.wanted])]
            unfold Oper.wp
            rw [hρ]
            clear hρ
            rcases hw with ⟨h17, h19, hw⟩ | ⟨h17, h19, h10, h15, hw⟩ | ⟨_, _, _, h, _⟩
            rotate_left 2
            · have := h 1 (by decide); rw [HLI.out] at this; cases this
            focus
              subst hw
              obtain ⟨m12, m9, m10⟩ := HLD.out _ (.inl rfl)
              go_simp
              exact hK.out _ _ ⟨HVA.out.set (i := 1) (by rw [HVV.out]; rfl), Or.inl ⟨by rw [upd_ne (by decide)]; exact h17, by rw [upd_ne (by decide)]; exact h19, rfl⟩⟩
            focus
              subst hw
              obtain ⟨m12, m9, m10⟩ := HLD.out _ (.inr rfl)
              go_simp
              exact hK.out _ _ ⟨HVA.out.set (i := 1) (by rw [HVV.out]; rfl), Or.inr (Or.inl ⟨by rw [upd_ne (by decide)]; exact h17, by rw [upd_ne (by decide)]; exact h19, by rw [upd_ne (by decide)]; exact h10, by rw [upd_ne (by decide)]; exact h15, rfl⟩)⟩
          focus
            clear hd
            obtain ⟨ρ, hρ⟩ : ∃ ρ, a'.eval = ρ := ⟨_, rfl⟩
            have hcst : ∀ v, ρ (.const v) = v := fun v => (congrFun hρ (.const v)).symm
            have l9 : ρ (.tmp 9) = .pointer (some ⟨p9, 0, none⟩) := (congrFun hρ (.tmp 9)).symm.trans (HF.out.lo 9 rfl)
            rw [if_pos (by simp [Region.wanted])]
            unfold Oper.wp
            rw [hρ]
            clear hρ
            rcases hw with ⟨h17, h19, hw⟩ | ⟨h17, h19, h10, h15, hw⟩ | ⟨_, _, _, h, _⟩
            rotate_left 2
            · have := h 2 (by decide); rw [HLI.out] at this; cases this
            focus
              subst hw
              obtain ⟨m12, m9, m10⟩ := HLD.out _ (.inl rfl)
              go_simp
              exact hK.out _ _ ⟨HVA.out.set (i := 2) (by rw [HVV.out]; rfl), Or.inl ⟨by rw [upd_ne (by decide)]; exact h17, by rw [upd_ne (by decide)]; exact h19, rfl⟩⟩
            focus
              subst hw
              obtain ⟨m12, m9, m10⟩ := HLD.out _ (.inr rfl)
              go_simp
              exact hK.out _ _ ⟨HVA.out.set (i := 2) (by rw [HVV.out]; rfl), Or.inr (Or.inl ⟨by rw [upd_ne (by decide)]; exact h17, by rw [upd_ne (by decide)]; exact h19, by rw [upd_ne (by decide)]; exact h10, by rw [upd_ne (by decide)]; exact h15, rfl⟩)⟩
          focus
            clear hd
            obtain ⟨ρ, hρ⟩ : ∃ ρ, a'.eval = ρ := ⟨_, rfl⟩
            have hcst : ∀ v, ρ (.const v) = v := fun v => (congrFun hρ (.const v)).symm
            have l12 : ρ (.tmp 12) = .pointer (some ⟨p12, 0, none⟩) := (congrFun hρ (.tmp 12)).symm.trans (HF.out.lo 12 rfl)
            rw [if_pos (by simp [Region.wanted])]
            unfold Oper.wp
            rw [hρ]
            clear hρ
            rcases hw with ⟨h17, h19, hw⟩ | ⟨h17, h19, h10, h15, hw⟩ | ⟨_, _, _, h, _⟩
            rotate_left 2
            · have := h 3 (by decide); rw [HLI.out] at this; cases this
            focus
              subst hw
              go_simp
              exact hK.out _ _ ⟨HVA.out.set (i := 3) (by rw [HVV.out]; rfl), Or.inl ⟨by rw [upd_ne (by decide)]; exact h17, by rw [upd_ne (by decide)]; exact h19, rfl⟩⟩
            focus
              subst hw
              go_simp
              exact hK.out _ _ ⟨HVA.out.set (i := 3) (by rw [HVV.out]; rfl), Or.inr (Or.inl ⟨by rw [upd_ne (by decide)]; exact h17, by rw [upd_ne (by decide)]; exact h19, by rw [upd_ne (by decide)]; exact h10, by rw [upd_ne (by decide)]; exact h15, rfl⟩)⟩
          focus
            obtain ⟨d3, _⟩ := hd
            obtain ⟨ρ, hρ⟩ : ∃ ρ, a'.eval = ρ := ⟨_, rfl⟩
            have hcst : ∀ v, ρ (.const v) = v := fun v => (congrFun hρ (.const v)).symm
            have v3 : ρ (.tmp 70) = .pointer (some ⟨p12, 0, none⟩) := (congrFun hρ (.tmp 70)).symm.trans ((HF.out.ev 3 rfl d3).trans (HVA.out 3 _ (by rw [HVV.out]; rfl) d3))
            rw [if_pos (by simp [Region.wanted])]
            unfold Oper.wp
            rw [hρ]
            clear hρ
            rcases hw with ⟨h17, h19, hw⟩ | ⟨h17, h19, h10, h15, hw⟩ | ⟨_, _, _, h, _⟩
            rotate_left 2
            · have := h 4 (by decide); rw [HLI.out] at this; cases this
            focus
              subst hw
              obtain ⟨m12, m9, m10⟩ := HLD.out _ (.inl rfl)
              go_simp
              exact hK.out _ _ ⟨HVA.out.set (i := 4) (by rw [HVV.out]; rfl), Or.inl ⟨by rw [upd_ne (by decide)]; exact h17, by rw [upd_ne (by decide)]; exact h19, rfl⟩⟩
            focus
              subst hw
              obtain ⟨m12, m9, m10⟩ := HLD.out _ (.inr rfl)
              go_simp
              exact hK.out _ _ ⟨HVA.out.set (i := 4) (by rw [HVV.out]; rfl), Or.inr (Or.inl ⟨by rw [upd_ne (by decide)]; exact h17, by rw [upd_ne (by decide)]; exact h19, by rw [upd_ne (by decide)]; exact h10, by rw [upd_ne (by decide)]; exact h15, rfl⟩)⟩
          focus
            clear hd
            obtain ⟨ρ, hρ⟩ : ∃ ρ, a'.eval = ρ := ⟨_, rfl⟩
            have hcst : ∀ v, ρ (.const v) = v := fun v => (congrFun hρ (.const v)).symm
            have l10 : ρ (.tmp 10) = .pointer (some ⟨p10, 0, none⟩) := (congrFun hρ (.tmp 10)).symm.trans (HF.out.lo 10 rfl)
            rw [if_pos (by simp [Region.wanted])]
            unfold Oper.wp
            rw [hρ]
            clear hρ
            rcases hw with ⟨h17, h19, hw⟩ | ⟨h17, h19, h10, h15, hw⟩ | ⟨_, _, _, h, _⟩
            rotate_left 2
            · have := h 5 (by decide); rw [HLI.out] at this; cases this
            focus
              subst hw
              obtain ⟨m12, m9, m10⟩ := HLD.out _ (.inl rfl)
              go_simp
              exact hK.out _ _ ⟨HVA.out.set (i := 5) (by rw [HVV.out]; rfl), Or.inl ⟨by rw [upd_ne (by decide)]; exact h17, by rw [upd_ne (by decide)]; exact h19, rfl⟩⟩
            focus
              subst hw
              obtain ⟨m12, m9, m10⟩ := HLD.out _ (.inr rfl)
              go_simp
              exact hK.out _ _ ⟨HVA.out.set (i := 5) (by rw [HVV.out]; rfl), Or.inr (Or.inl ⟨by rw [upd_ne (by decide)]; exact h17, by rw [upd_ne (by decide)]; exact h19, by rw [upd_ne (by decide)]; exact h10, by rw [upd_ne (by decide)]; exact h15, rfl⟩)⟩
          focus
            clear hd
            obtain ⟨ρ, hρ⟩ : ∃ ρ, a'.eval = ρ := ⟨_, rfl⟩
            have hcst : ∀ v, ρ (.const v) = v := fun v => (congrFun hρ (.const v)).symm
            have l12 : ρ (.tmp 12) = .pointer (some ⟨p12, 0, none⟩) := (congrFun hρ (.tmp 12)).symm.trans (HF.out.lo 12 rfl)
            rw [if_pos (by simp [Region.wanted])]
            unfold Oper.wp
            rw [hρ]
            clear hρ
            rcases hw with ⟨h17, h19, hw⟩ | ⟨h17, h19, h10, h15, hw⟩ | ⟨_, _, _, h, _⟩
            rotate_left 2
            · have := h 6 (by decide); rw [HLI.out] at this; cases this
            focus
              subst hw
              go_simp
              exact hK.out _ _ ⟨HVA.out.set (i := 6) (by rw [HVV.out]; rfl), Or.inl ⟨by rw [upd_ne (by decide)]; exact h17, by rw [upd_ne (by decide)]; exact h19, rfl⟩⟩
            focus
              subst hw
              go_simp
              exact hK.out _ _ ⟨HVA.out.set (i := 6) (by rw [HVV.out]; rfl), Or.inr (Or.inl ⟨by rw [upd_ne (by decide)]; exact h17, by rw [upd_ne (by decide)]; exact h19, by rw [upd_ne (by decide)]; exact h10, by rw [upd_ne (by decide)]; exact h15, rfl⟩)⟩
          focus
            obtain ⟨d6, _⟩ := hd
            obtain ⟨ρ, hρ⟩ : ∃ ρ, a'.eval = ρ := ⟨_, rfl⟩
            have hcst : ∀ v, ρ (.const v) = v := fun v => (congrFun hρ (.const v)).symm
            have v6 : ρ (.tmp 73) = .pointer (some ⟨p12, 0, none⟩) := (congrFun hρ (.tmp 73)).symm.trans ((HF.out.ev 6 rfl d6).trans (HVA.out 6 _ (by rw [HVV.out]; rfl) d6))
            rw [if_pos (by simp [Region.wanted])]
            unfold Oper.wp
            rw [hρ]
            clear hρ
            rcases hw with ⟨h17, h19, hw⟩ | ⟨h17, h19, h10, h15, hw⟩ | ⟨_, _, _, h, _⟩
            rotate_left 2
            · have := h 7 (by decide); rw [HLI.out] at this; cases this
            focus
              subst hw
              obtain ⟨m12, m9, m10⟩ := HLD.out _ (.inl rfl)
              go_simp
              exact hK.out _ _ ⟨HVA.out.set (i := 7) (by rw [HVV.out]; rfl), Or.inl ⟨by rw [upd_ne (by decide)]; exact h17, by rw [upd_ne (by decide)]; exact h19, rfl⟩⟩
            focus
              subst hw
              obtain ⟨m12, m9, m10⟩ := HLD.out _ (.inr rfl)
              go_simp
              exact hK.out _ _ ⟨HVA.out.set (i := 7) (by rw [HVV.out]; rfl), Or.inr (Or.inl ⟨by rw [upd_ne (by decide)]; exact h17, by rw [upd_ne (by decide)]; exact h19, by rw [upd_ne (by decide)]; exact h10, by rw [upd_ne (by decide)]; exact h15, rfl⟩)⟩
          focus
            clear hd
            obtain ⟨ρ, hρ⟩ : ∃ ρ, a'.eval = ρ := ⟨_, rfl⟩
            have hcst : ∀ v, ρ (.const v) = v := fun v => (congrFun hρ (.const v)).symm
            have l10 : ρ (.tmp 10) = .pointer (some ⟨p10, 0, none⟩) := (congrFun hρ (.tmp 10)).symm.trans (HF.out.lo 10 rfl)
            rw [if_pos (by simp [Region.wanted])]
            unfold Oper.wp
            rw [hρ]
            clear hρ
            rcases hw with ⟨h17, h19, hw⟩ | ⟨h17, h19, h10, h15, hw⟩ | ⟨_, _, _, h, _⟩
            rotate_left 2
            · have := h 8 (by decide); rw [HLI.out] at this; cases this
            focus
              subst hw
              obtain ⟨m12, m9, m10⟩ := HLD.out _ (.inl rfl)
              go_simp
              exact hK.out _ _ ⟨HVA.out.set (i := 8) (by rw [HVV.out]; rfl), Or.inl ⟨by rw [upd_ne (by decide)]; exact h17, by rw [upd_ne (by decide)]; exact h19, rfl⟩⟩
            focus
              subst hw
              obtain ⟨m12, m9, m10⟩ := HLD.out _ (.inr rfl)
              go_simp
              exact hK.out _ _ ⟨HVA.out.set (i := 8) (by rw [HVV.out]; rfl), Or.inr (Or.inl ⟨by rw [upd_ne (by decide)]; exact h17, by rw [upd_ne (by decide)]; exact h19, by rw [upd_ne (by decide)]; exact h10, by rw [upd_ne (by decide)]; exact h15, rfl⟩)⟩
          focus
            obtain ⟨d7, d8, _⟩ := hd
            obtain ⟨ρ, hρ⟩ : ∃ ρ, a'.eval = ρ := ⟨_, rfl⟩
            have hcst : ∀ v, ρ (.const v) = v := fun v => (congrFun hρ (.const v)).symm
            have v7 : ρ (.tmp 74) = .slice (some ⟨g, 0, none⟩) n.offices.length c6 := (congrFun hρ (.tmp 74)).symm.trans ((HF.out.ev 7 rfl d7).trans (HVA.out 7 _ (by rw [HVV.out]; rfl) d7))
            have v8 : ρ (.tmp 75) = .int .i64 (j : Int) := (congrFun hρ (.tmp 75)).symm.trans ((HF.out.ev 8 rfl d8).trans (HVA.out 8 _ (by rw [HVV.out]; rfl) d8))
            rw [if_pos (by simp [Region.wanted])]
            unfold Oper.wp
            rw [hρ]
            clear hρ
            rcases hw with ⟨h17, h19, hw⟩ | ⟨h17, h19, h10, h15, hw⟩ | ⟨_, _, _, h, _⟩
            rotate_left 2
            · have := h 9 (by decide); rw [HLI.out] at this; cases this
            focus
              subst hw
              go_simp
              exact hK.out _ _ ⟨HVA.out.set (i := 9) (by rw [HVV.out]; rfl), Or.inl ⟨by rw [upd_ne (by decide)]; exact h17, by rw [upd_ne (by decide)]; exact h19, rfl⟩⟩
            focus
              subst hw
              go_simp
              exact hK.out _ _ ⟨HVA.out.set (i := 9) (by rw [HVV.out]; rfl), Or.inr (Or.inl ⟨by rw [upd_ne (by decide)]; exact h17, by rw [upd_ne (by decide)]; exact h19, by rw [upd_ne (by decide)]; exact h10, by rw [upd_ne (by decide)]; exact h15, rfl⟩)⟩
          focus
            obtain ⟨d9, _⟩ := hd
            obtain ⟨ρ, hρ⟩ : ∃ ρ, a'.eval = ρ := ⟨_, rfl⟩
            have hcst : ∀ v, ρ (.const v) = v := fun v => (congrFun hρ (.const v)).symm
            have v9 : ρ (.tmp 76) = .pointer (some ⟨g, j, none⟩) := (congrFun hρ (.tmp 76)).symm.trans ((HF.out.ev 9 rfl d9).trans (HVA.out 9 _ (by rw [HVV.out]; rfl) d9))
            rw [if_pos (by simp [Region.wanted])]
            unfold Oper.wp
            rw [hρ]
            clear hρ
            rcases hw with ⟨h17, h19, hw⟩ | ⟨h17, h19, h10, h15, hw⟩ | ⟨_, _, _, h, _⟩
            rotate_left 2
            · have := h 10 (by decide); rw [HLI.out] at this; cases this
            rotate_left
            · rw [HLI.out] at h10; cases h10
            have hcc := HCJ.out.1
            subst hw
            go_simp
            exact hK.out _ _ ⟨HVA.out.set (i := 10) (by rw [HVV.out]; rfl), Or.inl ⟨by rw [upd_ne (by decide)]; exact h17, by rw [upd_ne (by decide)]; exact h19, rfl⟩⟩
          focus
            clear hd
            obtain ⟨ρ, hρ⟩ : ∃ ρ, a'.eval = ρ := ⟨_, rfl⟩
            have hcst : ∀ v, ρ (.const v) = v := fun v => (congrFun hρ (.const v)).symm
            have l12 : ρ (.tmp 12) = .pointer (some ⟨p12, 0, none⟩) := (congrFun hρ (.tmp 12)).symm.trans (HF.out.lo 12 rfl)
            rw [if_pos (by simp [Region.wanted])]
            unfold Oper.wp
            rw [hρ]
            clear hρ
            rcases hw with ⟨h17, h19, hw⟩ | ⟨h17, h19, h10, h15, hw⟩ | ⟨_, _, _, h, _⟩
            rotate_left 2
            · have := h 11 (by decide); rw [HLI.out] at this; cases this
            focus
              subst hw
              go_simp
              exact hK.out _ _ ⟨HVA.out.set (i := 11) (by rw [HVV.out]; rfl), Or.inl ⟨by rw [upd_ne (by decide)]; exact h17, by rw [upd_ne (by decide)]; exact h19, rfl⟩⟩
            focus
              subst hw
              go_simp
              exact hK.out _ _ ⟨HVA.out.set (i := 11) (by rw [HVV.out]; rfl), Or.inr (Or.inl ⟨by rw [upd_ne (by decide)]; exact h17, by rw [upd_ne (by decide)]; exact h19, by rw [upd_ne (by decide)]; exact h10, by rw [upd_ne (by decide)]; exact h15, rfl⟩)⟩
          focus
            obtain ⟨d11, _⟩ := hd
            obtain ⟨ρ, hρ⟩ : ∃ ρ, a'.eval = ρ := ⟨_, rfl⟩
            have hcst : ∀ v, ρ (.const v) = v := fun v => (congrFun hρ (.const v)).symm
            have v11 : ρ (.tmp 78) = .pointer (some ⟨p12, 0, none⟩) := (congrFun hρ (.tmp 78)).symm.trans ((HF.out.ev 11 rfl d11).trans (HVA.out 11 _ (by rw [HVV.out]; rfl) d11))
            rw [if_pos (by simp [Region.wanted])]
            unfold Oper.wp
            rw [hρ]
            clear hρ
            rcases hw with ⟨h17, h19, hw⟩ | ⟨h17, h19, h10, h15, hw⟩ | ⟨_, _, _, h, _⟩
            rotate_left 2
            · have := h 12 (by decide); rw [HLI.out] at this; cases this
            focus
              subst hw
              obtain ⟨m12, m9, m10⟩ := HLD.out _ (.inl rfl)
              go_simp
              exact hK.out _ _ ⟨HVA.out.set (i := 12) (by rw [HVV.out]; rfl), Or.inl ⟨by rw [upd_ne (by decide)]; exact h17, by rw [upd_ne (by decide)]; exact h19, rfl⟩⟩
            focus
              subst hw
              obtain ⟨m12, m9, m10⟩ := HLD.out _ (.inr rfl)
              go_simp
              exact hK.out _ _ ⟨HVA.out.set (i := 12) (by rw [HVV.out]; rfl), Or.inr (Or.inl ⟨by rw [upd_ne (by decide)]; exact h17, by rw [upd_ne (by decide)]; exact h19, by rw [upd_ne (by decide)]; exact h10, by rw [upd_ne (by decide)]; exact h15, rfl⟩)⟩
          focus
            clear hd
            obtain ⟨ρ, hρ⟩ : ∃ ρ, a'.eval = ρ := ⟨_, rfl⟩
            have hcst : ∀ v, ρ (.const v) = v := fun v => (congrFun hρ (.const v)).symm
            have l9 : ρ (.tmp 9) = .pointer (some ⟨p9, 0, none⟩) := (congrFun hρ (.tmp 9)).symm.trans (HF.out.lo 9 rfl)
            rw [if_pos (by simp [Region.wanted])]
            unfold Oper.wp
            rw [hρ]
            clear hρ
            rcases hw with ⟨h17, h19, hw⟩ | ⟨h17, h19, h10, h15, hw⟩ | ⟨_, _, _, h, _⟩
            rotate_left 2
            · have := h 13 (by decide); rw [HLI.out] at this; cases this
            focus
              subst hw
              obtain ⟨m12, m9, m10⟩ := HLD.out _ (.inl rfl)
              go_simp
              exact hK.out _ _ ⟨HVA.out.set (i := 13) (by rw [HVV.out]; rfl), Or.inl ⟨by rw [upd_ne (by decide)]; exact h17, by rw [upd_ne (by decide)]; exact h19, rfl⟩⟩
            focus
              subst hw
              obtain ⟨m12, m9, m10⟩ := HLD.out _ (.inr rfl)
              go_simp
              exact hK.out _ _ ⟨HVA.out.set (i := 13) (by rw [HVV.out]; rfl), Or.inr (Or.inl ⟨by rw [upd_ne (by decide)]; exact h17, by rw [upd_ne (by decide)]; exact h19, by rw [upd_ne (by decide)]; exact h10, by rw [upd_ne (by decide)]; exact h15, rfl⟩)⟩
          focus
            obtain ⟨d12, d13, _⟩ := hd
            obtain ⟨ρ, hρ⟩ : ∃ ρ, a'.eval = ρ := ⟨_, rfl⟩
            have hcst : ∀ v, ρ (.const v) = v := fun v => (congrFun hρ (.const v)).symm
            have v12 : ρ (.tmp 79) = .slice (some ⟨g, 0, none⟩) n.offices.length c6 := (congrFun hρ (.tmp 79)).symm.trans ((HF.out.ev 12 rfl d12).trans (HVA.out 12 _ (by rw [HVV.out]; rfl) d12))
            have v13 : ρ (.tmp 80) = .int .i64 (i : Int) := (congrFun hρ (.tmp 80)).symm.trans ((HF.out.ev 13 rfl d13).trans (HVA.out 13 _ (by rw [HVV.out]; rfl) d13))
            rw [if_pos (by simp [Region.wanted])]
            unfold Oper.wp
            rw [hρ]
            clear hρ
            rcases hw with ⟨h17, h19, hw⟩ | ⟨h17, h19, h10, h15, hw⟩ | ⟨_, _, _, h, _⟩
            rotate_left 2
            · have := h 14 (by decide); rw [HLI.out] at this; cases this
            focus
              subst hw
              go_simp
              exact hK.out _ _ ⟨HVA.out.set (i := 14) (by rw [HVV.out]; rfl), Or.inl ⟨by rw [upd_ne (by decide)]; exact h17, by rw [upd_ne (by decide)]; exact h19, rfl⟩⟩
            focus
              subst hw
              go_simp
              exact hK.out _ _ ⟨HVA.out.set (i := 14) (by rw [HVV.out]; rfl), Or.inr (Or.inl ⟨by rw [upd_ne (by decide)]; exact h17, by rw [upd_ne (by decide)]; exact h19, by rw [upd_ne (by decide)]; exact h10, by rw [upd_ne (by decide)]; exact h15, rfl⟩)⟩
          focus
            obtain ⟨d14, _⟩ := hd
            obtain ⟨ρ, hρ⟩ : ∃ ρ, a'.eval = ρ := ⟨_, rfl⟩
            have hcst : ∀ v, ρ (.const v) = v := fun v => (congrFun hρ (.const v)).symm
            have v14 : ρ (.tmp 81) = .pointer (some ⟨g, i, none⟩) := (congrFun hρ (.tmp 81)).symm.trans ((HF.out.ev 14 rfl d14).trans (HVA.out 14 _ (by rw [HVV.out]; rfl) d14))
            rw [if_pos (by simp [Region.wanted])]
            unfold Oper.wp
            rw [hρ]
            clear hρ
            rcases hw with ⟨h17, h19, hw⟩ | ⟨h17, h19, h10, h15, hw⟩ | ⟨_, _, _, h, _⟩
            rotate_left 2
            · have := h 15 (by decide); rw [HLI.out] at this; cases this
            rotate_left
            · rw [HLI.out] at h15; cases h15
            have hcc := HCI.out.1
            subst hw
            go_simp
            exact hK.out _ _ ⟨HVA.out.set (i := 15) (by rw [HVV.out]; rfl), Or.inl ⟨by rw [upd_ne (by decide)]; exact h17, by rw [upd_ne (by decide)]; exact h19, rfl⟩⟩
          focus
            obtain ⟨d1, d2, d0, _, _, d6, d7, d8, d9, d10, d15, _⟩ := hd
            obtain ⟨ρ, hρ⟩ : ∃ ρ, a'.eval = ρ := ⟨_, rfl⟩
            have hcst : ∀ v, ρ (.const v) = v := fun v => (congrFun hρ (.const v)).symm
            have v1 : ρ (.tmp 68) = .slice (some ⟨g, 0, none⟩) n.offices.length c6 := (congrFun hρ (.tmp 68)).symm.trans ((HF.out.ev 1 rfl d1).trans (HVA.out 1 _ (by rw [HVV.out]; rfl) d1))
            have v2 : ρ (.tmp 69) = .int .i64 (i : Int) := (congrFun hρ (.tmp 69)).symm.trans ((HF.out.ev 2 rfl d2).trans (HVA.out 2 _ (by rw [HVV.out]; rfl) d2))
            rw [if_pos (by simp [Region.wanted])]
            unfold Oper.wp
            rw [hρ]
            clear hρ
            rcases hw with ⟨h17, h19, hw⟩ | ⟨h17, h19, h10, h15, hw⟩ | ⟨_, _, _, h, _⟩
            rotate_left 2
            · have := h 16 (by decide); rw [HLI.out] at this; cases this
            focus
              subst hw
              go_simp
              exact hK.out _ _ ⟨HVA.out.set (i := 16) (by rw [HVV.out]; rfl), Or.inl ⟨by rw [upd_ne (by decide)]; exact h17, by rw [upd_ne (by decide)]; exact h19, rfl⟩⟩
            focus
              subst hw
              go_simp
              exact hK.out _ _ ⟨HVA.out.set (i := 16) (by rw [HVV.out]; rfl), Or.inr (Or.inl ⟨by rw [upd_ne (by decide)]; exact h17, by rw [upd_ne (by decide)]; exact h19, by rw [upd_ne (by decide)]; exact h10, by rw [upd_ne (by decide)]; exact h15, rfl⟩)⟩
          focus
            obtain ⟨d16, d10, d0, d1, d2, d6, d7, d8, d9, _, d15, _⟩ := hd
            obtain ⟨ρ, hρ⟩ : ∃ ρ, a'.eval = ρ := ⟨_, rfl⟩
            have hcst : ∀ v, ρ (.const v) = v := fun v => (congrFun hρ (.const v)).symm
            have v16 : ρ (.tmp 83) = .pointer (some ⟨g, i, none⟩) := (congrFun hρ (.tmp 83)).symm.trans ((HF.out.ev 16 rfl d16).trans (HVA.out 16 _ (by rw [HVV.out]; rfl) d16))
            have v10 : ρ (.tmp 77) = strV sj := (congrFun hρ (.tmp 77)).symm.trans ((HF.out.ev 10 rfl d10).trans (HVA.out 10 _ (by rw [HVV.out]; rfl) d10))
            rw [if_pos (by simp [Region.wanted])]
            unfold Oper.wp
            rw [hρ]
            clear hρ
            rcases hw with ⟨h17, h19, hw⟩ | ⟨h17, _⟩ | ⟨_, h17, _⟩
            rotate_left
            · rw [HLI.out] at h17; cases h17
            · rw [HLI.out] at h17; cases h17
            subst hw
            obtain ⟨c0, f0⟩ := HCI.out
            go_simp
            rw [HWA.out]
            exact hK.out _ _ ⟨HVA.out.free (i := 17) (by rw [HVV.out]; rfl) undef, Or.inr (Or.inl ⟨upd_self _ _, by rw [upd_ne (by decide)]; exact h19, by rw [upd_ne (by decide)]; exact d10, by rw [upd_ne (by decide)]; exact d15, rfl⟩)⟩
          focus
            obtain ⟨d4, d5, d0, d1, d2, d3, _, _, d6, d7, d8, d9, d10, d11, d12, d13, d14, d15, d16, d17, _⟩ := hd
            obtain ⟨ρ, hρ⟩ : ∃ ρ, a'.eval = ρ := ⟨_, rfl⟩
            have hcst : ∀ v, ρ (.const v) = v := fun v => (congrFun hρ (.const v)).symm
            have v4 : ρ (.tmp 71) = .slice (some ⟨g, 0, none⟩) n.offices.length c6 := (congrFun hρ (.tmp 71)).symm.trans ((HF.out.ev 4 rfl d4).trans (HVA.out 4 _ (by rw [HVV.out]; rfl) d4))
            have v5 : ρ (.tmp 72) = .int .i64 (j : Int) := (congrFun hρ (.tmp 72)).symm.trans ((HF.out.ev 5 rfl d5).trans (HVA.out 5 _ (by rw [HVV.out]; rfl) d5))
            rw [if_pos (by simp [Region.wanted])]
            unfold Oper.wp
            rw [hρ]
            clear hρ
            rcases hw with ⟨h17, _⟩ | ⟨h17, h19, h10, h15, hw⟩ | ⟨_, _, h18, _⟩
            · rw [d17] at h17; cases h17
            rotate_left
            · rw [HLI.out] at h18; cases h18
            subst hw
            go_simp
            exact hK.out _ _ ⟨HVA.out.set (i := 18) (by rw [HVV.out]; rfl), Or.inr (Or.inl ⟨by rw [upd_ne (by decide)]; exact h17, by rw [upd_ne (by decide)]; exact h19, by rw [upd_ne (by decide)]; exact h10, by rw [upd_ne (by decide)]; exact h15, rfl⟩)⟩
          focus
            obtain ⟨d18, d15, d17, d0, d1, d2, d3, d4, d5, d6, d7, d8, d9, d10, d11, d12, d13, d14, _, d16, _, _⟩ := hd
            obtain ⟨ρ, hρ⟩ : ∃ ρ, a'.eval = ρ := ⟨_, rfl⟩
            have hcst : ∀ v, ρ (.const v) = v := fun v => (congrFun hρ (.const v)).symm
            have v18 : ρ (.tmp 84) = .pointer (some ⟨g, j, none⟩) := (congrFun hρ (.tmp 84)).symm.trans ((HF.out.ev 18 rfl d18).trans (HVA.out 18 _ (by rw [HVV.out]; rfl) d18))
            have v15 : ρ (.tmp 82) = strV si := (congrFun hρ (.tmp 82)).symm.trans ((HF.out.ev 15 rfl d15).trans (HVA.out 15 _ (by rw [HVV.out]; rfl) d15))
            rw [if_pos (by simp [Region.wanted])]
            unfold Oper.wp
            rw [hρ]
            clear hρ
            rcases hw with ⟨h17, _⟩ | ⟨h17, h19, h10, h15, hw⟩ | ⟨h19, _⟩
            · rw [d17] at h17; cases h17
            rotate_left
            · rw [HLI.out] at h19; cases h19
            rw [← HWA.out] at hw
            subst hw
            obtain ⟨c0, f0⟩ := HCJA.out
            go_simp
            rw [HWB.out]
            exact hK.out _ _ ⟨HVA.out.free (i := 19) (by rw [HVV.out]; rfl) undef, Or.inr (Or.inr ⟨upd_self _ _, by rw [upd_ne (by decide)]; exact d17, by rw [upd_ne (by decide)]; exact d18, fun q hq => by
              rw [upd_ne (by omega)]
              match q, hq with
              | 0, _ => exact d0
              | 1, _ => exact d1
              | 2, _ => exact d2
              | 3, _ => exact d3
              | 4, _ => exact d4
              | 5, _ => exact d5
              | 6, _ => exact d6
              | 7, _ => exact d7
              | 8, _ => exact d8
              | 9, _ => exact d9
              | 10, _ => exact d10
              | 11, _ => exact d11
              | 12, _ => exact d12
              | 13, _ => exact d13
              | 14, _ => exact d14
              | 15, _ => exact d15
              | 16, _ => exact d16
              | q + 17, hq => omega, rfl⟩)⟩
        focus
          intro L w' xs hL hJ
          obtain ⟨hv, hw⟩ := hJ
          have e0 : xs 0 = .pointer (some ⟨p12, 0, none⟩) := hv 0 _ (by rw [HVV.out]; rfl) (hL 0 (by decide))
          have e1 : xs 1 = .slice (some ⟨g, 0, none⟩) n.offices.length c6 := hv 1 _ (by rw [HVV.out]; rfl) (hL 1 (by decide))
          have e2 : xs 2 = .int .i64 (i : Int) := hv 2 _ (by rw [HVV.out]; rfl) (hL 2 (by decide))
          have e3 : xs 3 = .pointer (some ⟨p12, 0, none⟩) := hv 3 _ (by rw [HVV.out]; rfl) (hL 3 (by decide))
          have e4 : xs 4 = .slice (some ⟨g, 0, none⟩) n.offices.length c6 := hv 4 _ (by rw [HVV.out]; rfl) (hL 4 (by decide))
          have e5 : xs 5 = .int .i64 (j : Int) := hv 5 _ (by rw [HVV.out]; rfl) (hL 5 (by decide))
          have e6 : xs 6 = .pointer (some ⟨p12, 0, none⟩) := hv 6 _ (by rw [HVV.out]; rfl) (hL 6 (by decide))
          have e7 : xs 7 = .slice (some ⟨g, 0, none⟩) n.offices.length c6 := hv 7 _ (by rw [HVV.out]; rfl) (hL 7 (by decide))
          have e8 : xs 8 = .int .i64 (j : Int) := hv 8 _ (by rw [HVV.out]; rfl) (hL 8 (by decide))
          have e9 : xs 9 = .pointer (some ⟨g, j, none⟩) := hv 9 _ (by rw [HVV.out]; rfl) (hL 9 (by decide))
          have e10 : xs 10 = strV sj := hv 10 _ (by rw [HVV.out]; rfl) (hL 10 (by decide))
          have e11 : xs 11 = .pointer (some ⟨p12, 0, none⟩) := hv 11 _ (by rw [HVV.out]; rfl) (hL 11 (by decide))
          have e12 : xs 12 = .slice (some ⟨g, 0, none⟩) n.offices.length c6 := hv 12 _ (by rw [HVV.out]; rfl) (hL 12 (by decide))
          have e13 : xs 13 = .int .i64 (i : Int) := hv 13 _ (by rw [HVV.out]; rfl) (hL 13 (by decide))
          have e14 : xs 14 = .pointer (some ⟨g, i, none⟩) := hv 14 _ (by rw [HVV.out]; rfl) (hL 14 (by decide))
          have e15 : xs 15 = strV si := hv 15 _ (by rw [HVV.out]; rfl) (hL 15 (by decide))
          have e16 : xs 16 = .pointer (some ⟨g, i, none⟩) := hv 16 _ (by rw [HVV.out]; rfl) (hL 16 (by decide))
          have e18 : xs 18 = .pointer (some ⟨g, j, none⟩) := hv 18 _ (by rw [HVV.out]; rfl) (hL 18 (by decide))
          simp only [putGo, Act.put, List.setIfInBounds_toArray, List.set_cons_zero, List.set_cons_succ, e0, e1, e2, e3, e4, e5, e6, e7, e8, e9, e10, e11, e12, e13, e14, e15, e16, e18]
          clear hv e0 e1 e2 e3 e4 e5 e6 e7 e8 e9 e10 e11 e12 e13 e14 e15 e16 e18
          rcases hw with ⟨_, h19, _⟩ | ⟨_, h19, _⟩ | ⟨_, _, _, _, hw⟩
          · rw [hL 19 (by decide)] at h19; cases h19
          · rw [hL 19 (by decide)] at h19; cases h19
          rw [hw]
          clear hw hL
          obtain ⟨W10, hW10⟩ : ∃ W, WB.setCell ⟨p12, 3, none⟩ (.slice none 0 0) = W := ⟨_, rfl⟩
          have hnB := HN7.out.below HBB.out hn5
          have hgr := grown_setCell WB ⟨p12, 3, none⟩ (.slice none 0 0)
          have hn10 := hnB.set 3 (.slice none 0 0)
          simp only [List.setIfInBounds_toArray, List.set_cons_zero, List.set_cons_succ] at hn10
          rw [hW10] at hgr hn10
          have hb4B : Below w4.heap.size w4 WB := HB47.out.trans (HBB.out.mono HB5.out.size)
          have hb4 : Below w4.heap.size w4 W10 := hb4B.grown hgr hb4B.size (fun q e => by have e2 : p12 = q := Option.some.inj e; have := HP12.out; omega)
          have HB4X := Lib.hid hb4
          have hgW : g < W10.heap.size := by have := HBB.out.size; have := hgr.size; omega
          have hp12g : p12 < g := by omega
          have HO10 : Hid (OwnStrs W5.heap.size W10 (.slice (some ⟨g, 0, none⟩) n.offices.length c6) (swapL n.offices i j)) := Lib.hid (OwnStrs.row HOWB.out hgr (.inr (fun e => by have e2 : g = p12 := Option.some.inj e; omega)))
          have HN10 := Lib.hid hn10
          have f3 := hnB.free 3
          have q3 := hnB.cell 3
          simp at q3
          have HW10 := Lib.hid hW10
          clear hnB hgr hn10 hb4B hW10
          go_upto_region 11 with fail
          rw [HW10.out]
          clear f3 q3
          obtain ⟨x0, x1, x2, x3⟩ := HNK.out W10 (HB4.out.trans (hb4.mono HB4.out.size))
          clear hb4
          go_wp2_with fail
          go_loopw [89] (fun kv wr => ∃ k vh, k ≤ n.homes.length ∧ kv = .int .i64 k ∧ Below w4.heap.size w4 wr ∧ OwnStrs W5.heap.size wr (.slice (some ⟨g, 0, none⟩) n.offices.length c6) (swapL n.offices i j) ∧ CellsN wr p12 #[.slice (some ⟨g, 0, none⟩) n.offices.length c6, .slice ap n.people.length cp, .slice ac n.classes.length cc, vh] ∧ OwnInts W10.heap.size wr vh ((n.homes.take k).map (movedI i j)) ∧ W10.heap.size ≤ wr.heap.size) (fun kv _ => n.homes.length - (intOf kv).toNat)
          case atStart => exact ⟨0, _, by omega, rfl, HB4X.out, HO10.out, HN10.out, by simpa using OwnInts.nil _ _, Nat.le_refl _⟩
          case round =>
            obtain ⟨k, vh, hk, rfl, hb, ho, hn, hh, hsz⟩ := hrel
            obtain ⟨av, nv, cv, rfl⟩ := hh.form'
            have HB := Lib.hid hb
            have HO := Lib.hid ho
            have HN := Lib.hid hn
            have HH := Lib.hid hh
            have HWR := Lib.hid (HB4.out.trans (hb.mono HB4.out.size))
            clear x0 x1 x2 x3
            by_cases hlt : k < n.homes.length
            focus
              obtain ⟨bk, ok, rfl, bbk, g0, gl⟩ := IsInts.cellK (HVK.out wr HWR.out).h hlt
              obtain ⟨q, hq⟩ : ∃ q, nth n.homes k = q := ⟨_, rfl⟩
              rw [hq] at g0 gl
              have HTK := Lib.hid (take_moved (i := i) (j := j) hlt hq)
              have HMV : Hid (I64 (movedI i j q)) := Lib.hid (movedI_i64 (by omega) (by omega) gl)
              have HLD2 : Hid (∀ W, Below wr.heap.size wr W → W.cell? ⟨p12, 3, none⟩ = some (.slice av nv cv) ∧ W.cell? ⟨p9, 0, none⟩ = some (.int .i64 (i : Int)) ∧ W.cell? ⟨p10, 0, none⟩ = some (.int .i64 (j : Int))) := Lib.hid fun W hW =>
                ⟨(hn.ext hW).cell 3, ((HC8.out.below hb h9lt).ext hW).cell 0, ((HC9.out.below hb h10lt).ext hW).cell 0⟩
              obtain ⟨WC, hWC⟩ : ∃ W, (wr.alloc (.cells #[.int .i64 (movedI i j q)] 3)).drew = W := ⟨_, rfl⟩
              have HWC := Lib.hid hWC
              have HBC : Hid (Below wr.heap.size wr WC) := Lib.hid (by rw [← hWC]; exact below_drewL (box_below' _ _))
              have HCC : Hid (WC.cell? ⟨wr.heap.size, 0, none⟩ = some (.int .i64 (movedI i j q))) := Lib.hid (by rw [← hWC]; exact World.cell?_alloc_at _ _ _ _ rfl)
              clear hb ho hn hh gl hq hWC bbk
              go_upto_region 14 with fail
              clear g0
              obtain ⟨V, hV⟩ : ∃ V : List (Option Value), V = [some (.pointer (some ⟨p12, 3, none⟩)), some (.slice av nv cv), some (.func (.func 19) #[] #[.pointer (some ⟨p9, 0, none⟩), .pointer (some ⟨p10, 0, none⟩)]), some (.int .i64 q), some (.int .i64 (movedI i j q)), none, none, some (.pointer (some ⟨p12, 3, none⟩)), none] := ⟨_, rfl⟩
              have HVV := Lib.hid hV
              clear hV
              refine wp_region_V [some 93, some 94, some 95, some 96, some 97, some 98, some 99, some 100, none] (fun L w' xs => ValsAt V L xs ∧ ((L 5 = false ∧ L 6 = false ∧ L 8 = false ∧ w' = wr.drew) ∨ (L 5 = true ∧ L 4 = true ∧ L 6 = false ∧ L 8 = false ∧ xs 5 = .slice (some ⟨wr.heap.size, 0, none⟩) 1 1 ∧ w' = WC) ∨ (L 6 = true ∧ L 1 = true ∧ L 4 = true ∧ L 5 = true ∧ ∃ w6, OwnInts W10.heap.size w6 (xs 6) ((n.homes.take k).map (movedI i j) ++ [movedI i j q]) ∧ WC.grownBy w6 (Value.ownBlock (.slice av nv cv)) ∧ (L 8 = false → w' = w6) ∧ (L 8 = true → w' = w6.setCell ⟨p12, 3, none⟩ (xs 6))))) (by kernel_rfl) (by kernel_rfl) (by rfl) (by rfl) (by rfl) ?_ ?_ ?_
              focus
                exact fun xs => ⟨ValsAt.none _ _, Or.inl ⟨rfl, rfl, rfl, rfl⟩⟩
              focus
                refine ⟨?_, ?_, ?_, ?_, ?_, ?_, ?_, ?_, ?_, trivial⟩
                all_goals
                  intro L a' w' xs hi hd hf hJ K hK
                  obtain ⟨hv, hw⟩ := hJ
                  have HF := Lib.hid hf
                  have HVA := Lib.hid hv
                  have HLI := Lib.hid hi
                  clear hf hv hi
                focus
                  clear hd
                  obtain ⟨ρ, hρ⟩ : ∃ ρ, a'.eval = ρ := ⟨_, rfl⟩
                  have hcst : ∀ v, ρ (.const v) = v := fun v => (congrFun hρ (.const v)).symm
                  have l12 : ρ (.tmp 12) = .pointer (some ⟨p12, 0, none⟩) := (congrFun hρ (.tmp 12)).symm.trans (HF.out.lo 12 rfl)
                  rw [if_pos (by simp [Region.wanted])]
                  unfold Oper.wp
                  rw [hρ]
                  clear hρ
                  rcases hw with ⟨h5, h6, h8, hw⟩ | ⟨h5, h4, h6, h8, e5, hw⟩ | ⟨h6, h1, h4, h5, w6, ho6, hg6, hw6, hw8⟩
                  focus
                    subst hw
                    go_simp
                    exact hK.out _ _ ⟨HVA.out.set (i := 0) (by rw [HVV.out]; rfl), .inl ⟨((upd_ne (L := L) (show (5 : Nat) ≠ 0 by decide)).trans h5), ((upd_ne (L := L) (show (6 : Nat) ≠ 0 by decide)).trans h6), ((upd_ne (L := L) (show (8 : Nat) ≠ 0 by decide)).trans h8), rfl⟩⟩
                  focus
                    obtain rfl := hw
                    have E5 := Lib.hid e5
                    clear e5
                    go_simp
                    exact hK.out _ _ ⟨HVA.out.set (i := 0) (by rw [HVV.out]; rfl), .inr (.inl ⟨((upd_ne (L := L) (show (5 : Nat) ≠ 0 by decide)).trans h5), ((upd_ne (L := L) (show (4 : Nat) ≠ 0 by decide)).trans h4), ((upd_ne (L := L) (show (6 : Nat) ≠ 0 by decide)).trans h6), ((upd_ne (L := L) (show (8 : Nat) ≠ 0 by decide)).trans h8), ((updV_ne (xs := xs) (show (5 : Nat) ≠ 0 by decide)).trans E5.out), rfl⟩)⟩
                  focus
                    have HO6 := Lib.hid ho6
                    have HG6 := Lib.hid hg6
                    have HW6 := Lib.hid hw6
                    have HW8 := Lib.hid hw8
                    clear ho6 hg6 hw6 hw8
                    go_simp
                    exact hK.out _ _ ⟨HVA.out.set (i := 0) (by rw [HVV.out]; rfl), .inr (.inr ⟨((upd_ne (L := L) (show (6 : Nat) ≠ 0 by decide)).trans h6), ((upd_ne (L := L) (show (1 : Nat) ≠ 0 by decide)).trans h1), ((upd_ne (L := L) (show (4 : Nat) ≠ 0 by decide)).trans h4), ((upd_ne (L := L) (show (5 : Nat) ≠ 0 by decide)).trans h5), w6, by rw [updV_ne (show (6 : Nat) ≠ 0 by decide)]; exact HO6.out, HG6.out, fun h => HW6.out ((upd_ne (L := L) (show (8 : Nat) ≠ 0 by decide)).symm.trans h), fun h => by rw [updV_ne (show (6 : Nat) ≠ 0 by decide)]; exact HW8.out ((upd_ne (L := L) (show (8 : Nat) ≠ 0 by decide)).symm.trans h)⟩)⟩
                focus
                  obtain ⟨d0, _⟩ := hd
                  obtain ⟨ρ, hρ⟩ : ∃ ρ, a'.eval = ρ := ⟨_, rfl⟩
                  have hcst : ∀ v, ρ (.const v) = v := fun v => (congrFun hρ (.const v)).symm
                  have v0 : ρ (.tmp 93) = .pointer (some ⟨p12, 3, none⟩) := (congrFun hρ (.tmp 93)).symm.trans ((HF.out.ev 0 rfl d0).trans (HVA.out 0 _ (by rw [HVV.out]; rfl) d0))
                  rw [if_pos (by simp [Region.wanted])]
                  unfold Oper.wp
                  rw [hρ]
                  clear hρ
                  rcases hw with ⟨h5, h6, h8, hw⟩ | ⟨h5, h4, h6, h8, e5, hw⟩ | ⟨h6, h1, h4, h5, w6, ho6, hg6, hw6, hw8⟩
                  focus
                    subst hw
                    obtain ⟨m3, m9, m10⟩ := HLD2.out _ ((Below.refl _ wr).drew)
                    go_simp
                    exact hK.out _ _ ⟨HVA.out.set (i := 1) (by rw [HVV.out]; rfl), .inl ⟨((upd_ne (L := L) (show (5 : Nat) ≠ 1 by decide)).trans h5), ((upd_ne (L := L) (show (6 : Nat) ≠ 1 by decide)).trans h6), ((upd_ne (L := L) (show (8 : Nat) ≠ 1 by decide)).trans h8), rfl⟩⟩
                  focus
                    obtain rfl := hw
                    obtain ⟨m3, m9, m10⟩ := HLD2.out _ HBC.out
                    have E5 := Lib.hid e5
                    clear e5
                    go_simp
                    exact hK.out _ _ ⟨HVA.out.set (i := 1) (by rw [HVV.out]; rfl), .inr (.inl ⟨((upd_ne (L := L) (show (5 : Nat) ≠ 1 by decide)).trans h5), ((upd_ne (L := L) (show (4 : Nat) ≠ 1 by decide)).trans h4), ((upd_ne (L := L) (show (6 : Nat) ≠ 1 by decide)).trans h6), ((upd_ne (L := L) (show (8 : Nat) ≠ 1 by decide)).trans h8), ((updV_ne (xs := xs) (show (5 : Nat) ≠ 1 by decide)).trans E5.out), rfl⟩)⟩
                  focus
                    rw [HLI.out] at h1
                    cases h1
                focus
                  clear hd
                  obtain ⟨ρ, hρ⟩ : ∃ ρ, a'.eval = ρ := ⟨_, rfl⟩
                  have hcst : ∀ v, ρ (.const v) = v := fun v => (congrFun hρ (.const v)).symm
                  have l11 : ρ (.tmp 11) = .func (.func 19) #[] #[.pointer (some ⟨p9, 0, none⟩), .pointer (some ⟨p10, 0, none⟩)] := (congrFun hρ (.tmp 11)).symm.trans (HF.out.lo 11 rfl)
                  rw [if_pos (by simp [Region.wanted])]
                  unfold Oper.wp
                  rw [hρ]
                  clear hρ
                  rcases hw with ⟨h5, h6, h8, hw⟩ | ⟨h5, h4, h6, h8, e5, hw⟩ | ⟨h6, h1, h4, h5, w6, ho6, hg6, hw6, hw8⟩
                  focus
                    subst hw
                    go_simp
                    exact hK.out _ _ ⟨HVA.out.set (i := 2) (by rw [HVV.out]; rfl), .inl ⟨((upd_ne (L := L) (show (5 : Nat) ≠ 2 by decide)).trans h5), ((upd_ne (L := L) (show (6 : Nat) ≠ 2 by decide)).trans h6), ((upd_ne (L := L) (show (8 : Nat) ≠ 2 by decide)).trans h8), rfl⟩⟩
                  focus
                    obtain rfl := hw
                    have E5 := Lib.hid e5
                    clear e5
                    go_simp
                    exact hK.out _ _ ⟨HVA.out.set (i := 2) (by rw [HVV.out]; rfl), .inr (.inl ⟨((upd_ne (L := L) (show (5 : Nat) ≠ 2 by decide)).trans h5), ((upd_ne (L := L) (show (4 : Nat) ≠ 2 by decide)).trans h4), ((upd_ne (L := L) (show (6 : Nat) ≠ 2 by decide)).trans h6), ((upd_ne (L := L) (show (8 : Nat) ≠ 2 by decide)).trans h8), ((updV_ne (xs := xs) (show (5 : Nat) ≠ 2 by decide)).trans E5.out), rfl⟩)⟩
                  focus
                    have HO6 := Lib.hid ho6
                    have HG6 := Lib.hid hg6
                    have HW6 := Lib.hid hw6
                    have HW8 := Lib.hid hw8
                    clear ho6 hg6 hw6 hw8
                    go_simp
                    exact hK.out _ _ ⟨HVA.out.set (i := 2) (by rw [HVV.out]; rfl), .inr (.inr ⟨((upd_ne (L := L) (show (6 : Nat) ≠ 2 by decide)).trans h6), ((upd_ne (L := L) (show (1 : Nat) ≠ 2 by decide)).trans h1), ((upd_ne (L := L) (show (4 : Nat) ≠ 2 by decide)).trans h4), ((upd_ne (L := L) (show (5 : Nat) ≠ 2 by decide)).trans h5), w6, by rw [updV_ne (show (6 : Nat) ≠ 2 by decide)]; exact HO6.out, HG6.out, fun h => HW6.out ((upd_ne (L := L) (show (8 : Nat) ≠ 2 by decide)).symm.trans h), fun h => by rw [updV_ne (show (6 : Nat) ≠ 2 by decide)]; exact HW8.out ((upd_ne (L := L) (show (8 : Nat) ≠ 2 by decide)).symm.trans h)⟩)⟩
                focus
                  clear hd
                  obtain ⟨ρ, hρ⟩ : ∃ ρ, a'.eval = ρ := ⟨_, rfl⟩
                  have hcst : ∀ v, ρ (.const v) = v := fun v => (congrFun hρ (.const v)).symm
                  have l14 : ρ (.tmp 14) = .int .i64 q := (congrFun hρ (.tmp 14)).symm.trans (HF.out.lo 14 rfl)
                  rw [if_pos (by simp [Region.wanted])]
                  unfold Oper.wp
                  rw [hρ]
                  clear hρ
                  rcases hw with ⟨h5, h6, h8, hw⟩ | ⟨h5, h4, h6, h8, e5, hw⟩ | ⟨h6, h1, h4, h5, w6, ho6, hg6, hw6, hw8⟩
                  focus
                    subst hw
                    go_simp
                    exact hK.out _ _ ⟨HVA.out.set (i := 3) (by rw [HVV.out]; rfl), .inl ⟨((upd_ne (L := L) (show (5 : Nat) ≠ 3 by decide)).trans h5), ((upd_ne (L := L) (show (6 : Nat) ≠ 3 by decide)).trans h6), ((upd_ne (L := L) (show (8 : Nat) ≠ 3 by decide)).trans h8), rfl⟩⟩
                  focus
                    obtain rfl := hw
                    have E5 := Lib.hid e5
                    clear e5
                    go_simp
                    exact hK.out _ _ ⟨HVA.out.set (i := 3) (by rw [HVV.out]; rfl), .inr (.inl ⟨((upd_ne (L := L) (show (5 : Nat) ≠ 3 by decide)).trans h5), ((upd_ne (L := L) (show (4 : Nat) ≠ 3 by decide)).trans h4), ((upd_ne (L := L) (show (6 : Nat) ≠ 3 by decide)).trans h6), ((upd_ne (L := L) (show (8 : Nat) ≠ 3 by decide)).trans h8), ((updV_ne (xs := xs) (show (5 : Nat) ≠ 3 by decide)).trans E5.out), rfl⟩)⟩
                  focus
                    have HO6 := Lib.hid ho6
                    have HG6 := Lib.hid hg6
                    have HW6 := Lib.hid hw6
                    have HW8 := Lib.hid hw8
                    clear ho6 hg6 hw6 hw8
                    go_simp
                    exact hK.out _ _ ⟨HVA.out.set (i := 3) (by rw [HVV.out]; rfl), .inr (.inr ⟨((upd_ne (L := L) (show (6 : Nat) ≠ 3 by decide)).trans h6), ((upd_ne (L := L) (show (1 : Nat) ≠ 3 by decide)).trans h1), ((upd_ne (L := L) (show (4 : Nat) ≠ 3 by decide)).trans h4), ((upd_ne (L := L) (show (5 : Nat) ≠ 3 by decide)).trans h5), w6, by rw [updV_ne (show (6 : Nat) ≠ 3 by decide)]; exact HO6.out, HG6.out, fun h => HW6.out ((upd_ne (L := L) (show (8 : Nat) ≠ 3 by decide)).symm.trans h), fun h => by rw [updV_ne (show (6 : Nat) ≠ 3 by decide)]; exact HW8.out ((upd_ne (L := L) (show (8 : Nat) ≠ 3 by decide)).symm.trans h)⟩)⟩
                focus
                  obtain ⟨d2, d3, _⟩ := hd
                  obtain ⟨ρ, hρ⟩ : ∃ ρ, a'.eval = ρ := ⟨_, rfl⟩
                  have hcst : ∀ v, ρ (.const v) = v := fun v => (congrFun hρ (.const v)).symm
                  have v2 : ρ (.tmp 95) = .func (.func 19) #[] #[.pointer (some ⟨p9, 0, none⟩), .pointer (some ⟨p10, 0, none⟩)] := (congrFun hρ (.tmp 95)).symm.trans ((HF.out.ev 2 rfl d2).trans (HVA.out 2 _ (by rw [HVV.out]; rfl) d2))
                  have v3 : ρ (.tmp 96) = .int .i64 q := (congrFun hρ (.tmp 96)).symm.trans ((HF.out.ev 3 rfl d3).trans (HVA.out 3 _ (by rw [HVV.out]; rfl) d3))
                  rw [if_pos (by simp [Region.wanted])]
                  unfold Oper.wp
                  rw [hρ]
                  clear hρ
                  rcases hw with ⟨h5, h6, h8, hw⟩ | ⟨h5, h4, h6, h8, e5, hw⟩ | ⟨h6, h1, h4, h5, w6, ho6, hg6, hw6, hw8⟩
                  rotate_left
                  focus
                    rw [HLI.out] at h4
                    cases h4
                  focus
                    rw [HLI.out] at h4
                    cases h4
                  subst hw
                  obtain ⟨m3, m9, m10⟩ := HLD2.out _ ((Below.refl _ wr).drew)
                  have M9 := Lib.hid m9
                  have M10 := Lib.hid m10
                  clear m3 m9 m10
                  go_simp
                  go_at_call 19
                  refine (moved_any wr.drew q p9 p10 i j M9.out M10.out).mono ?_
                  rintro e w5 ⟨rfl, hw5⟩
                  rw [hw5]
                  exact hK.out _ _ ⟨HVA.out.set (i := 4) (by rw [HVV.out]; rfl), .inl ⟨((upd_ne (L := L) (show (5 : Nat) ≠ 4 by decide)).trans h5), ((upd_ne (L := L) (show (6 : Nat) ≠ 4 by decide)).trans h6), ((upd_ne (L := L) (show (8 : Nat) ≠ 4 by decide)).trans h8), rfl⟩⟩
                focus
                  obtain ⟨d4, _⟩ := hd
                  obtain ⟨ρ, hρ⟩ : ∃ ρ, a'.eval = ρ := ⟨_, rfl⟩
                  have hcst : ∀ v, ρ (.const v) = v := fun v => (congrFun hρ (.const v)).symm
                  have v4 : ρ (.tmp 97) = .int .i64 (movedI i j q) := (congrFun hρ (.tmp 97)).symm.trans ((HF.out.ev 4 rfl d4).trans (HVA.out 4 _ (by rw [HVV.out]; rfl) d4))
                  rw [if_pos (by simp [Region.wanted])]
                  unfold Oper.wp
                  rw [hρ]
                  clear hρ
                  rcases hw with ⟨h5, h6, h8, hw⟩ | ⟨h5, h4, h6, h8, e5, hw⟩ | ⟨h6, h1, h4, h5, w6, ho6, hg6, hw6, hw8⟩
                  rotate_left
                  focus
                    rw [HLI.out] at h5
                    cases h5
                  focus
                    rw [HLI.out] at h5
                    cases h5
                  subst hw
                  go_simp
                  rw [HWC.out]
                  exact hK.out _ _ ⟨HVA.out.free (i := 5) (by rw [HVV.out]; rfl) _, .inr (.inl ⟨upd_self _ _, ((upd_ne (L := L) (show (4 : Nat) ≠ 5 by decide)).trans d4), ((upd_ne (L := L) (show (6 : Nat) ≠ 5 by decide)).trans h6), ((upd_ne (L := L) (show (8 : Nat) ≠ 5 by decide)).trans h8), updV_self _ _ _, rfl⟩)⟩
                focus
                  obtain ⟨d1, d5, d4, _⟩ := hd
                  have v1 : a'.eval (.tmp 94) = .slice av nv cv := (HF.out.ev 1 rfl d1).trans (HVA.out 1 _ (by rw [HVV.out]; rfl) d1)
                  have v5 : a'.eval (.tmp 98) = xs 5 := HF.out.ev 5 rfl d5
                  rw [if_pos (by simp [Region.wanted])]
                  rcases hw with ⟨h5, _⟩ | ⟨h5, h4, h6, h8, e5, hw⟩ | ⟨h6, _⟩
                  focus
                    rw [h5] at d5
                    cases d5
                  rotate_left
                  focus
                    rw [HLI.out] at h6
                    cases h6
                  obtain rfl := hw
                  obtain ⟨v', w6, hrun, ho, hg, _⟩ := run_append_ints (ty := 23) (w := w') (B := W10.heap.size) (v := .slice av nv cv) (vx := .slice (some ⟨wr.heap.size, 0, none⟩) 1 1) (xs := (n.homes.take k).map (movedI i j)) (ys := [movedI i j q]) (HH.out.below HBC.out) (src_one HCC.out rfl) (by simp; exact HMV.out) (by simp; omega) (by have := HBC.out.size; omega)
                  rw [e5] at v5
                  have HO6 := Lib.hid ho
                  have HG6 := Lib.hid hg
                  clear ho hg e5
                  refine wp_of_append _ rfl v1 v5 hrun ?_
                  exact hK.out _ _ ⟨HVA.out.free (i := 6) (by rw [HVV.out]; rfl) _, .inr (.inr ⟨upd_self _ _, ((upd_ne (L := L) (show (1 : Nat) ≠ 6 by decide)).trans d1), ((upd_ne (L := L) (show (4 : Nat) ≠ 6 by decide)).trans h4), ((upd_ne (L := L) (show (5 : Nat) ≠ 6 by decide)).trans h5), w6, by rw [updV_self]; exact HO6.out, HG6.out, fun _ => rfl, fun h => by rw [((upd_ne (L := L) (show (8 : Nat) ≠ 6 by decide)).trans h8)] at h; cases h⟩)⟩
                focus
                  obtain ⟨d0, d1, d2, d3, d4, d5, d6, _⟩ := hd
                  obtain ⟨ρ, hρ⟩ : ∃ ρ, a'.eval = ρ := ⟨_, rfl⟩
                  have hcst : ∀ v, ρ (.const v) = v := fun v => (congrFun hρ (.const v)).symm
                  have l12 : ρ (.tmp 12) = .pointer (some ⟨p12, 0, none⟩) := (congrFun hρ (.tmp 12)).symm.trans (HF.out.lo 12 rfl)
                  rw [if_pos (by simp [Region.wanted])]
                  unfold Oper.wp
                  rw [hρ]
                  clear hρ
                  rcases hw with ⟨h5, h6, h8, hw⟩ | ⟨h5, h4, h6, h8, e5, hw⟩ | ⟨h6, h1, h4, h5, w6, ho6, hg6, hw6, hw8⟩
                  focus
                    rw [h6] at d6
                    cases d6
                  focus
                    rw [h6] at d6
                    cases d6
                  focus
                    have HO6 := Lib.hid ho6
                    have HG6 := Lib.hid hg6
                    have HW6 := Lib.hid hw6
                    have HW8 := Lib.hid hw8
                    clear ho6 hg6 hw6 hw8
                    go_simp
                    exact hK.out _ _ ⟨HVA.out.set (i := 7) (by rw [HVV.out]; rfl), .inr (.inr ⟨((upd_ne (L := L) (show (6 : Nat) ≠ 7 by decide)).trans h6), ((upd_ne (L := L) (show (1 : Nat) ≠ 7 by decide)).trans h1), ((upd_ne (L := L) (show (4 : Nat) ≠ 7 by decide)).trans h4), ((upd_ne (L := L) (show (5 : Nat) ≠ 7 by decide)).trans h5), w6, by rw [updV_ne (show (6 : Nat) ≠ 7 by decide)]; exact HO6.out, HG6.out, fun h => HW6.out ((upd_ne (L := L) (show (8 : Nat) ≠ 7 by decide)).symm.trans h), fun h => by rw [updV_ne (show (6 : Nat) ≠ 7 by decide)]; exact HW8.out ((upd_ne (L := L) (show (8 : Nat) ≠ 7 by decide)).symm.trans h)⟩)⟩
                focus
                  obtain ⟨d7, d6, _, d0, d1, d2, d3, d4, d5, _, _⟩ := hd
                  obtain ⟨ρ, hρ⟩ : ∃ ρ, a'.eval = ρ := ⟨_, rfl⟩
                  have hcst : ∀ v, ρ (.const v) = v := fun v => (congrFun hρ (.const v)).symm
                  have v7 : ρ (.tmp 100) = .pointer (some ⟨p12, 3, none⟩) := (congrFun hρ (.tmp 100)).symm.trans ((HF.out.ev 7 rfl d7).trans (HVA.out 7 _ (by rw [HVV.out]; rfl) d7))
                  have v6 : ρ (.tmp 99) = xs 6 := (congrFun hρ (.tmp 99)).symm.trans (HF.out.ev 6 rfl d6)
                  rw [if_pos (by simp [Region.wanted])]
                  unfold Oper.wp
                  rw [hρ]
                  clear hρ
                  rcases hw with ⟨_, h6, _⟩ | ⟨_, _, h6, _⟩ | ⟨h6, h1, h4, h5, w6, ho6, hg6, hw6, hw8⟩
                  focus
                    rw [h6] at d6
                    cases d6
                  focus
                    rw [h6] at d6
                    cases d6
                  have HO6 := Lib.hid ho6
                  have HG6 := Lib.hid hg6
                  obtain rfl := hw6 HLI.out
                  have hn6 := (HN.out.ext HBC.out).grown hg6 (fun e => by have := (HH.out.1.lt _ e.symm).1; omega)
                  have f3 := hn6.free 3
                  have c3 := hn6.cell 3
                  simp at c3
                  obtain ⟨a14, n14, c14, e14⟩ := ho6.form'
                  rw [e14] at v6
                  have E14 := Lib.hid e14
                  clear ho6 hg6 hw6 hw8 hn6 e14
                  go_simp
                  exact hK.out _ _ ⟨HVA.out.free (i := 8) (by rw [HVV.out]; rfl) undef, .inr (.inr ⟨((upd_ne (L := L) (show (6 : Nat) ≠ 8 by decide)).trans h6), ((upd_ne (L := L) (show (1 : Nat) ≠ 8 by decide)).trans h1), ((upd_ne (L := L) (show (4 : Nat) ≠ 8 by decide)).trans h4), ((upd_ne (L := L) (show (5 : Nat) ≠ 8 by decide)).trans h5), w', by rw [updV_ne (show (6 : Nat) ≠ 8 by decide)]; exact HO6.out, HG6.out, (fun h => absurd ((upd_self L 8).symm.trans h) (by decide)), fun _ => by rw [updV_ne (show (6 : Nat) ≠ 8 by decide), E14.out]⟩)⟩
              focus
                intro L w' xs hL hJ
                obtain ⟨hv, hw⟩ := hJ
                have e0 : xs 0 = .pointer (some ⟨p12, 3, none⟩) := hv 0 _ (by rw [HVV.out]; rfl) (hL 0 (by decide))
                have e1 : xs 1 = .slice av nv cv := hv 1 _ (by rw [HVV.out]; rfl) (hL 1 (by decide))
                have e2 : xs 2 = .func (.func 19) #[] #[.pointer (some ⟨p9, 0, none⟩), .pointer (some ⟨p10, 0, none⟩)] := hv 2 _ (by rw [HVV.out]; rfl) (hL 2 (by decide))
                have e3 : xs 3 = .int .i64 q := hv 3 _ (by rw [HVV.out]; rfl) (hL 3 (by decide))
                have e4 : xs 4 = .int .i64 (movedI i j q) := hv 4 _ (by rw [HVV.out]; rfl) (hL 4 (by decide))
                have e7 : xs 7 = .pointer (some ⟨p12, 3, none⟩) := hv 7 _ (by rw [HVV.out]; rfl) (hL 7 (by decide))
                simp only [putGo, Act.put, List.setIfInBounds_toArray, List.set_cons_zero, List.set_cons_succ, e0, e1, e2, e3, e4, e7]
                clear hv e0 e1 e2 e3 e4 e7
                rcases hw with ⟨_, _, h8, _⟩ | ⟨_, _, _, h8, _⟩ | ⟨_, _, _, _, w6, ho6, hg6, _, hw8⟩
                · rw [hL 8 (by decide)] at h8; cases h8
                · rw [hL 8 (by decide)] at h8; cases h8
                have hw8 := hw8 (hL 8 (by decide))
                obtain ⟨v6, hv6⟩ : ∃ v, xs 6 = v := ⟨_, rfl⟩
                rw [hv6] at ho6 hw8
                rw [hv6]
                have hgr8 := grown_setCell w6 ⟨p12, 3, none⟩ v6
                have hgv : ∀ q, Value.ownBlock (.slice av nv cv) = some q → W10.heap.size ≤ q := fun q e => (HH.out.1.lt q e).1
                have hn8 := ((HN.out.ext HBC.out).grown hg6 (fun e => by have := hgv _ e.symm; omega)).set 3 v6
                simp only [List.setIfInBounds_toArray, List.set_cons_zero, List.set_cons_succ] at hn8
                have hb6 : Below w4.heap.size w4 w6 := (HB.out.trans (HBC.out.mono HB.out.size)).grown hg6 (by have := HB.out.size; have := HBC.out.size; omega) (fun q e => by have := hgv q e; have := HB4X.out.size; omega)
                have hb8 : Below w4.heap.size w4 (w6.setCell ⟨p12, 3, none⟩ v6) := hb6.grown hgr8 hb6.size (fun q e => by have e2 : p12 = q := Option.some.inj e; have := HP12.out; omega)
                have ho8 := OwnStrs.row (OwnStrs.row (OwnRecs.below strK HO.out HBC.out (by omega)) hg6 (.inr (fun e => by have := hgv g e.symm; omega))) hgr8 (.inr (fun e => by have e2 : g = p12 := Option.some.inj e; omega))
                have hv8 := ho6.kept hgr8 (.inr (fun e => by have := (ho6.1.lt p12 e).1; omega))
                have hs8 : W10.heap.size ≤ (w6.setCell ⟨p12, 3, none⟩ v6).heap.size := by have := hg6.size; have := HBC.out.size; have := hgr8.size; omega
                rw [← hw8] at hgr8 hn8 hb8 ho8 hv8 hs8
                have HN8 := Lib.hid hn8
                have HB8 := Lib.hid hb8
                have HO8 := Lib.hid ho8
                have HV8 := Lib.hid hv8
                clear hw8 hgr8 hgv hn8 hb6 hb8 ho8 hv8 ho6 hg6 hv6 hL
                obtain ⟨w8, rfl⟩ : ∃ W, W = w' := ⟨_, rfl⟩
                go_wp2
                go_roundw
                case rel => exact ⟨k + 1, v6, by omega, by go_num, HB8.out, HO8.out, HN8.out, by rw [HTK.out]; exact HV8.out, hs8⟩
                case measure => simp [intOf]; omega
            obtain rfl : k = n.homes.length := by omega
            clear hlt
            rw [List.take_length] at HH
            obtain ⟨E, hE⟩ : ∃ E, resE n l = E := ⟨_, rfl⟩
            obtain ⟨os, hos⟩ : ∃ os, resL n l = os := ⟨_, rfl⟩
            obtain ⟨hm1, hm2⟩ := res_moved him hjm l
            rw [hE] at hm1
            rw [hos] at hm2
            obtain ⟨x0, x1, x2, x3⟩ := HNK.out wr HWR.out
            have HMK : Hid (∀ W, Below wr.heap.size wr W → IsNames W.heap.size W ⟨.slice (some ⟨g, 0, none⟩) n.offices.length c6, .slice ap n.people.length cp, .slice ac n.classes.length cc, .slice av nv cv⟩ (movedN n i j)) := Lib.hid fun W hW => by
              have h0 := HVK.out W (HWR.out.trans (hW.mono HWR.out.size))
              exact ⟨OwnRecs.isRecs strK (OwnRecs.below strK HO.out hW (by have := HB4X.out.size; omega)) (by have := hW.size; omega), h0.p, h0.c, (HH.out.below hW).isInts⟩
            have HSM : Hid (SmallN (movedN n i j)) := Lib.hid ⟨by show (swapL n.offices i j).length ≤ _; rw [swapL_len]; exact HSN.out.o, HSN.out.p, HSN.out.c, by show (n.homes.map (movedI i j)).length ≤ _; rw [List.length_map]; exact HSN.out.h⟩
            have HMC : Hid (∀ W, Below wr.heap.size wr W → CellsN W p12 #[.slice (some ⟨g, 0, none⟩) n.offices.length c6, .slice ap n.people.length cp, .slice ac n.classes.length cc, .slice av nv cv]) := Lib.hid fun W hW => HN.out.ext hW
            have HR1 := Lib.hid (res_law wr wr ⟨_, _, _, _⟩ n _ l E os (Below.refl _ _) (HVK.out wr HWR.out) HSN.out (HLK.out wr HWR.out) HAG.out hE hos)
            have HR2 : Hid (∀ W, Below wr.heap.size wr W → Calls Try.prog 12 #[.agg #[.slice (some ⟨g, 0, none⟩) n.offices.length c6, .slice ap n.people.length cp, .slice ac n.classes.length cc, .slice av nv cv], .slice aw l.length cw] W fun e w' => ∃ a c, e = .returned (.tuple #[.slice a os.length c, .int .i64 E]) ∧ IsOrders w'.heap.size w' (.slice a os.length c) (os.map (movedO i j)) ∧ Below W.heap.size W w') := Lib.hid fun W hW => by
              refine (res_law W W ⟨_, _, _, _⟩ (movedN n i j) _ l E (os.map (movedO i j)) (Below.refl _ _) (HMK.out W hW) HSM.out (HLK.out W (HWR.out.trans (hW.mono HWR.out.size))) HAG.out hm1 hm2).mono ?_
              rintro e w' ⟨a, c, rfl, ho, hb⟩
              rw [List.length_map] at ho
              exact ⟨a, c, by rw [List.length_map], ho, hb⟩
            have HOS : Hid (∀ o ∈ os, 0 ≤ o.frm ∧ o.frm < 24 ∧ 0 ≤ o.dest ∧ o.dest < 24 ∧ o.against.length ≤ 24 ∧ o.against.Nodup ∧ ∀ q ∈ o.against, 0 ≤ q ∧ q < 24) := Lib.hid (by rw [← hos]; exact res_small (by omega))
            clear hE hos hm1 hm2
            go_wp2_with fail
            refine HR1.out.mono ?_
            rintro e r1 ⟨ax, cx, rfl, ho1, hbr1⟩
            have HBr1 := Lib.hid hbr1
            have HX1 := Lib.hid ho1
            obtain ⟨q0, q1, q2, q3⟩ : _ ∧ _ ∧ _ ∧ _ := ⟨(HMC.out r1 hbr1).cell 0, (HMC.out r1 hbr1).cell 1, (HMC.out r1 hbr1).cell 2, (HMC.out r1 hbr1).cell 3⟩
            simp at q0 q1 q2 q3
            clear x0 x1 x2 x3 ho1 hbr1
            go_wp2_with fail
            refine (HR2.out r1 HBr1.out).mono ?_
            rintro e r2 ⟨ay, cy, rfl, ho2, hbr2⟩
            have HBr2 := Lib.hid hbr2
            have HY2 := Lib.hid ho2
            clear q0 q1 q2 q3 ho2 hbr2
            have HBR2 : Hid (Below wr.heap.size wr r2) := Lib.hid (HBr1.out.trans (HBr2.out.mono HBr1.out.size))
            have HBA2 : Hid (Below w.heap.size w r2) := Lib.hid ((HB1.out.trans (HWR.out.mono HB1.out.size)).trans (HBR2.out.mono (by have := HB1.out.size; have := HWR.out.size; omega)))
            have HXK : Hid (∀ W, Below r2.heap.size r2 W → IsOrders r2.heap.size W (.slice ax os.length cx) os) := Lib.hid fun W hW => (IsRecs.below orderK (IsRecs.below orderK HX1.out HBr2.out (Nat.le_refl _)) hW HBr2.out.size).mono orderK HBr2.out.size
            have HYK : Hid (∀ W, Below r2.heap.size r2 W → IsOrders r2.heap.size W (.slice ay os.length cy) (os.map (movedO i j))) := Lib.hid fun W hW => IsRecs.below orderK HY2.out hW (Nat.le_refl _)
            have HPK : Hid (∀ W, Below r2.heap.size r2 W → W.cell? ⟨p9, 0, none⟩ = some (.int .i64 (i : Int)) ∧ W.cell? ⟨p10, 0, none⟩ = some (.int .i64 (j : Int))) := Lib.hid fun W hW => by
              have h : Below w4.heap.size w4 W := (HB.out.trans (HBR2.out.mono HB.out.size)).trans (hW.mono (by have := HB.out.size; have := HBR2.out.size; omega))
              exact ⟨(HC8.out.below h h9lt).cell 0, (HC9.out.below h h10lt).cell 0⟩
            have hosl : (os.length : Int) ≤ 8796093022208 := by
              obtain ⟨_, _, _, _, _, h⟩ := HX1.out.form
              omega
            go_wp2_with fail
            go_loopw [126] (fun kv wr => ∃ k, k ≤ os.length ∧ kv = .int .i64 k ∧ Below r2.heap.size r2 wr) (fun kv _ => os.length - (intOf kv).toNat)
            case atStart => exact ⟨0, by omega, rfl, Below.refl _ _⟩
            case round =>
              obtain ⟨k, hk, rfl, hb⟩ := hrel
              obtain ⟨wk, rfl⟩ : ∃ W, W = wr := ⟨_, rfl⟩
              have HBK := Lib.hid hb
              by_cases hlt : k < os.length
              focus
                obtain ⟨bx, ox, va, rfl, bbx, hia, hok, k0, k1, k2, k3, k4, k5, k6, k7, k8, k9, k10⟩ := IsOrders.cell (HXK.out wk hb) hlt
                obtain ⟨O, hO⟩ : ∃ O, orderAt os k = O := ⟨_, rfl⟩
                rw [hO] at hia hok k0 k1 k2 k3 k4 k5 k6 k7 k9 k10
                have HOK := Lib.hid hok
                have HIA := Lib.hid hia
                have HOO := Lib.hid hO
                clear hb hia hok hO bbx
                obtain ⟨bq, oq, cq, ⟨aq, eq, hq1, hq2, hq4⟩, hq3, hq5, hq6⟩ := id HIA.out
                subst eq
                clear hq1 hq2 hq4 hq3 hq5 hq6
                go_upto_region 23 with fail
                clear k0 k1 k2 k3 k4 k5 k6 k7 k8 k9 k10
                obtain ⟨b20, hb20⟩ : ∃ z, wk.heap.size = z := ⟨_, rfl⟩
                obtain ⟨W22, hW22⟩ : ∃ W, wk.alloc (.cells #[.int .i64 O.frm, .int .i64 O.person, .int .i64 O.dest, .int .i64 O.cls, .int .i64 O.after, .int .i64 O.by_, .int .i64 O.crowd, .int .i64 O.pay, .slice aq O.against.length cq, .bool O.back, .int .i64 O.els] 38) = W := ⟨_, rfl⟩
                have HW22 := Lib.hid hW22
                have HB22 : Hid (Below wk.heap.size wk W22) := Lib.hid (by rw [← hW22]; exact box_below' _ _)
                have HC22 : Hid (CellsN W22 b20 #[.int .i64 O.frm, .int .i64 O.person, .int .i64 O.dest, .int .i64 O.cls, .int .i64 O.after, .int .i64 O.by_, .int .i64 O.crowd, .int .i64 O.pay, .slice aq O.against.length cq, .bool O.back, .int .i64 O.els]) := Lib.hid (by rw [← hW22, ← hb20]; exact CellsN.new _ _ _)
                have HB20 := Lib.hid hb20
                rw [hW22]
                rw [hb20]
                clear hb20 hW22
                go_upto_region 24 with fail
                obtain ⟨W23, hW23⟩ : ∃ W, W22.alloc (.cells #[.bool false, .bool false, .bool false, .bool false, .bool false, .bool false, .bool false, .bool false, .bool false, .bool false, .bool false, .bool false, .bool false, .bool false, .bool false, .bool false, .bool false, .bool false, .bool false, .bool false, .bool false, .bool false, .bool false, .bool false] 45) = W := ⟨_, rfl⟩
                obtain ⟨b21, hb21⟩ : ∃ z, W22.heap.size = z := ⟨_, rfl⟩
                have HB23 : Hid (Below W22.heap.size W22 W23) := Lib.hid (by rw [← hW23]; exact box_below' _ _)
                have HM23 : Hid (CellsN W23 b21 (markC (mkB i j O.against 0))) := Lib.hid (by rw [← hW23, ← hb21, mkB_zero]; exact CellsN.new _ _ _)
                have HC23 := Lib.hid (HC22.out.ext HB23.out)
                have hb20l := HC22.out.lt
                rw [hW23]
                rw [hb21]
                have HB21 := Lib.hid hb21
                clear hb21 hW23
                have z8 := HC23.out.cell 8
                simp at z8
                go_wp2_with fail
                clear z8
                have HOSK : Hid (0 ≤ O.frm ∧ O.frm < 24 ∧ 0 ≤ O.dest ∧ O.dest < 24 ∧ O.against.length ≤ 24 ∧ O.against.Nodup ∧ ∀ q ∈ O.against, 0 ≤ q ∧ q < 24) := Lib.hid (HOS.out O (by rw [← HOO.out, orderAt_get hlt]; exact List.getElem_mem hlt))
                have hl24 : O.against.length ≤ 24 := HOSK.out.2.2.2.2.1
                have HIAK : Hid (∀ W, Below wk.heap.size wk W → IsInts wk.heap.size W (.slice aq O.against.length cq) O.against) := Lib.hid fun W hW => (HIA.out.below hW HBK.out.size).mono HBK.out.size
                go_loopw [134] (fun kv wr => ∃ m, m ≤ O.against.length ∧ kv = .int .i64 m ∧ CellsN wr b21 (markC (mkB i j O.against m)) ∧ Below W22.heap.size W22 wr) (fun kv _ => O.against.length - (intOf kv).toNat)
                case atStart => exact ⟨0, by omega, rfl, HM23.out, HB23.out⟩
                case round =>
                  obtain ⟨m, hm, rfl, hmk, hb⟩ := hrel
                  have HMK2 := Lib.hid hmk
                  have HB2 := Lib.hid hb
                  have hbk : Below wk.heap.size wk wr := HB22.out.trans (hb.mono HB22.out.size)
                  have hbr : Below r2.heap.size r2 wr := HBK.out.trans (hbk.mono HBK.out.size)
                  by_cases hmt : m < O.against.length
                  focus
                    obtain ⟨b7, o7, rfl, bb7, g0, gl⟩ := IsInts.cellK (HIAK.out wr hbk) hmt
                    obtain ⟨q, hq⟩ : ∃ q, nth O.against m = q := ⟨_, rfl⟩
                    rw [hq] at g0 gl
                    have hqr := HOSK.out.2.2.2.2.2.2 q (by rw [← hq, nth_eq_getElem hmt]; exact List.getElem_mem hmt)
                    have hmr := (movedI_range (show i < 24 by omega) (show j < 24 by omega) q).2 hqr
                    obtain ⟨x, hx⟩ : ∃ x : Nat, movedI i j q = (x : Int) := ⟨(movedI i j q).toNat, by omega⟩
                    rw [hx] at hmr
                    obtain ⟨m9, m10⟩ := HPK.out wr hbr
                    have HCALL := Lib.hid (moved_any wr q p9 p10 i j m9 m10)
                    rw [hx] at HCALL
                    have HX : Hid (movedI i j (nth O.against m) = (x : Int)) := Lib.hid (by rw [hq]; exact hx)
                    have hx24 : x < 24 := by omega
                    have hxc := (hmk.cell x).trans (markC_get hx24)
                    have hxf := hmk.free x
                    have hq0 : 0 ≤ q := hqr.1
                    have hq24 : q < 24 := hqr.2
                    have hx0 : (0 : Int) ≤ (x : Int) := by omega
                    have hxi : (x : Int) < 24 := by omega
                    clear hmk hb hbk hbr bb7 gl hq hqr hmr hx m9 m10
                    go_upto_region 29 with fail
                    go_wp2_with fail
                    refine HCALL.out.mono ?_
                    rintro e w5 ⟨rfl, hw5⟩
                    rw [hw5]
                    clear hw5
                    go_wp2
                    go_roundw
                    case rel =>
                      refine ⟨m + 1, by omega, by go_num, ?_, HB2.out.setCell (p := ⟨b21, x, none⟩) (by rw [HB21.out]; exact Nat.le_refl _) _⟩
                      rw [← markC_set hx24 (fun y _ => mkB_succ hmt HX.out y)]
                      exact HMK2.out.set x (.bool true)
                    case measure => simp [intOf]; omega
                  obtain rfl : m = O.against.length := by omega
                  obtain ⟨wA, rfl⟩ : ∃ W, W = wr := ⟨_, rfl⟩
                  clear hmt
                  have hca := HC22.out.ext hb
                  have HCA := Lib.hid hca
                  obtain ⟨f, hf⟩ : ∃ f, mkB i j O.against O.against.length = f := ⟨_, rfl⟩
                  rw [hf] at hmk HMK2
                  obtain ⟨Y1, hY1⟩ : ∃ W, (wA.setCell ⟨b20, 0, none⟩ (.int .i64 (movedI i j O.frm))).drew = W := ⟨_, rfl⟩
                  obtain ⟨Y2, hY2⟩ : ∃ W, Y1.setCell ⟨b20, 2, none⟩ (.int .i64 (movedI i j O.dest)) = W := ⟨_, rfl⟩
                  obtain ⟨Y3, hY3⟩ : ∃ W, Y2.setCell ⟨b20, 8, none⟩ (.slice none 0 0) = W := ⟨_, rfl⟩
                  have HC1 : Hid (CellsN Y1 b20 #[.int .i64 (movedI i j O.frm), .int .i64 O.person, .int .i64 O.dest, .int .i64 O.cls, .int .i64 O.after, .int .i64 O.by_, .int .i64 O.crowd, .int .i64 O.pay, .slice aq O.against.length cq, .bool O.back, .int .i64 O.els]) := Lib.hid (by have h := hca.set 0 (.int .i64 (movedI i j O.frm)); simp only [List.setIfInBounds_toArray, List.set_cons_zero, List.set_cons_succ] at h; rw [← hY1]; exact h.drewL)
                  have HC2 : Hid (CellsN Y2 b20 #[.int .i64 (movedI i j O.frm), .int .i64 O.person, .int .i64 (movedI i j O.dest), .int .i64 O.cls, .int .i64 O.after, .int .i64 O.by_, .int .i64 O.crowd, .int .i64 O.pay, .slice aq O.against.length cq, .bool O.back, .int .i64 O.els]) := Lib.hid (by have h := HC1.out.set 2 (.int .i64 (movedI i j O.dest)); simp only [List.setIfInBounds_toArray, List.set_cons_zero, List.set_cons_succ] at h; rwa [hY2] at h)
                  have HC3 : Hid (CellsN Y3 b20 #[.int .i64 (movedI i j O.frm), .int .i64 O.person, .int .i64 (movedI i j O.dest), .int .i64 O.cls, .int .i64 O.after, .int .i64 O.by_, .int .i64 O.crowd, .int .i64 O.pay, .slice none 0 0, .bool O.back, .int .i64 O.els]) := Lib.hid (by have h := HC2.out.set 8 (.slice none 0 0); simp only [List.setIfInBounds_toArray, List.set_cons_zero, List.set_cons_succ] at h; rwa [hY3] at h)
                  have HBY : Hid (Below wk.heap.size wk Y3) := Lib.hid (by
                    have hle : wk.heap.size ≤ b20 := by rw [HB20.out]; exact Nat.le_refl _
                    rw [← hY3, ← hY2, ← hY1]
                    exact ((below_drewL (hbk.setCell (p := ⟨b20, 0, none⟩) hle _)).setCell (p := ⟨b20, 2, none⟩) hle _).setCell (p := ⟨b20, 8, none⟩) hle _)
                  have HMY : Hid (CellsN Y3 b21 (markC f)) := Lib.hid (by
                    have hne : b21 ≠ b20 := by have := HB21.out; omega
                    rw [← hY3, ← hY2, ← hY1]
                    exact ((((hmk.grown (grown_setCell _ ⟨b20, 0, none⟩ _) (fun e => hne (Option.some.inj e))).drewL).grown (grown_setCell _ ⟨b20, 2, none⟩ _) (fun e => hne (Option.some.inj e))).grown (grown_setCell _ ⟨b20, 8, none⟩ _) (fun e => hne (Option.some.inj e))))
                  have HY1 := Lib.hid hY1
                  have HY2' := Lib.hid hY2
                  have HY3 := Lib.hid hY3
                  have HF := Lib.hid hf
                  have HAL : Hid (Below r2.heap.size r2 wA.drew ∧ wA.drew.cell? ⟨b20, 0, none⟩ = some (.int .i64 O.frm) ∧ wA.drew.cell? ⟨b20, 2, none⟩ = some (.int .i64 O.dest)) := Lib.hid ⟨hbr.drew, hca.drewL.cell 0, hca.drewL.cell 2⟩
                  clear hmk hb hbk hbr hca hY1 hY2 hY3 hf
                  go_upto_region 31 with fail
                  obtain ⟨V, hV⟩ : ∃ V : List (Option Value), V = [some (.func (.func 19) #[] #[.pointer (some ⟨p9, 0, none⟩), .pointer (some ⟨p10, 0, none⟩)]), some (.pointer (some ⟨b20, 0, none⟩)), some (.int .i64 O.frm), some (.int .i64 (movedI i j O.frm)), some (.func (.func 19) #[] #[.pointer (some ⟨p9, 0, none⟩), .pointer (some ⟨p10, 0, none⟩)]), some (.pointer (some ⟨b20, 2, none⟩)), some (.int .i64 O.dest), some (.int .i64 (movedI i j O.dest)), some (.pointer (some ⟨b20, 0, none⟩)), none, some (.pointer (some ⟨b20, 2, none⟩)), none, some (.pointer (some ⟨b20, 8, none⟩)), none] := ⟨_, rfl⟩
                  have HVV := Lib.hid hV
                  clear hV
                  refine wp_region_V [some 149, some 150, some 151, some 152, some 153, some 154, some 155, some 156, some 157, none, some 158, none, some 159, none] (fun L w' xs => ValsAt V L xs ∧ ((L 9 = false ∧ L 11 = false ∧ L 13 = false ∧ w' = wA.drew) ∨ (L 9 = true ∧ L 11 = false ∧ L 13 = false ∧ (L 2 = true ∧ L 3 = true ∧ L 6 = true ∧ L 7 = true) ∧ w' = Y1) ∨ (L 11 = true ∧ L 9 = true ∧ L 13 = false ∧ (L 2 = true ∧ L 3 = true ∧ L 6 = true ∧ L 7 = true) ∧ w' = Y2) ∨ (L 13 = true ∧ L 11 = true ∧ L 9 = true ∧ (L 2 = true ∧ L 3 = true ∧ L 6 = true ∧ L 7 = true) ∧ w' = Y3))) (by kernel_rfl) (by kernel_rfl) (by rfl) (by rfl) (by rfl) ?_ ?_ ?_
                  focus
                    exact fun xs => ⟨ValsAt.none _ _, Or.inl ⟨rfl, rfl, rfl, rfl⟩⟩
                  focus
                    refine ⟨?_, ?_, ?_, ?_, ?_, ?_, ?_, ?_, ?_, ?_, ?_, ?_, ?_, ?_, trivial⟩
                    all_goals
                      intro L a' w' xs hi hd hf hJ K hK
                      obtain ⟨hv, hw⟩ := hJ
                      have HF := Lib.hid hf
                      have HVA := Lib.hid hv
                      have HLI := Lib.hid hi
                      clear hf hv hi
                    focus
                      clear hd
                      obtain ⟨ρ, hρ⟩ : ∃ ρ, a'.eval = ρ := ⟨_, rfl⟩
                      have hcst : ∀ v, ρ (.const v) = v := fun v => (congrFun hρ (.const v)).symm
                      have l11 : ρ (.tmp 11) = .func (.func 19) #[] #[.pointer (some ⟨p9, 0, none⟩), .pointer (some ⟨p10, 0, none⟩)] := (congrFun hρ (.tmp 11)).symm.trans (HF.out.lo 11 rfl)
                      rw [if_pos (by simp [Region.wanted])]
                      unfold Oper.wp
                      rw [hρ]
                      clear hρ
                      have HW := Lib.hid hw
                      clear hw
                      go_simp
                      exact hK.out _ _ ⟨HVA.out.set (i := 0) (by rw [HVV.out]; rfl), by simp only [upd_ne (L := L) (show (2 : Nat) ≠ 0 by decide), upd_ne (L := L) (show (3 : Nat) ≠ 0 by decide), upd_ne (L := L) (show (6 : Nat) ≠ 0 by decide), upd_ne (L := L) (show (7 : Nat) ≠ 0 by decide), upd_ne (L := L) (show (9 : Nat) ≠ 0 by decide), upd_ne (L := L) (show (11 : Nat) ≠ 0 by decide), upd_ne (L := L) (show (13 : Nat) ≠ 0 by decide)]; exact HW.out⟩
                    focus
                      clear hd
                      obtain ⟨ρ, hρ⟩ : ∃ ρ, a'.eval = ρ := ⟨_, rfl⟩
                      have hcst : ∀ v, ρ (.const v) = v := fun v => (congrFun hρ (.const v)).symm
                      have l20 : ρ (.tmp 20) = .pointer (some ⟨b20, 0, none⟩) := (congrFun hρ (.tmp 20)).symm.trans (HF.out.lo 20 rfl)
                      rw [if_pos (by simp [Region.wanted])]
                      unfold Oper.wp
                      rw [hρ]
                      clear hρ
                      have HW := Lib.hid hw
                      clear hw
                      go_simp
                      exact hK.out _ _ ⟨HVA.out.set (i := 1) (by rw [HVV.out]; rfl), by simp only [upd_ne (L := L) (show (2 : Nat) ≠ 1 by decide), upd_ne (L := L) (show (3 : Nat) ≠ 1 by decide), upd_ne (L := L) (show (6 : Nat) ≠ 1 by decide), upd_ne (L := L) (show (7 : Nat) ≠ 1 by decide), upd_ne (L := L) (show (9 : Nat) ≠ 1 by decide), upd_ne (L := L) (show (11 : Nat) ≠ 1 by decide), upd_ne (L := L) (show (13 : Nat) ≠ 1 by decide)]; exact HW.out⟩
                    focus
                      obtain ⟨d1, _⟩ := hd
                      obtain ⟨ρ, hρ⟩ : ∃ ρ, a'.eval = ρ := ⟨_, rfl⟩
                      have hcst : ∀ v, ρ (.const v) = v := fun v => (congrFun hρ (.const v)).symm
                      have v1 : ρ (.tmp 150) = .pointer (some ⟨b20, 0, none⟩) := (congrFun hρ (.tmp 150)).symm.trans ((HF.out.ev 1 rfl d1).trans (HVA.out 1 _ (by rw [HVV.out]; rfl) d1))
                      rw [if_pos (by simp [Region.wanted])]
                      unfold Oper.wp
                      rw [hρ]
                      clear hρ
                      rcases hw with ⟨h9, h11, h13, hw⟩ | ⟨h9, h11, h13, ⟨h2, h3, h6, h7⟩, hw⟩ | ⟨h11, h9, h13, ⟨h2, h3, h6, h7⟩, hw⟩ | ⟨h13, h11, h9, ⟨h2, h3, h6, h7⟩, hw⟩
                      rotate_left
                      focus
                        rw [HLI.out] at h2
                        cases h2
                      focus
                        rw [HLI.out] at h2
                        cases h2
                      focus
                        rw [HLI.out] at h2
                        cases h2
                      subst hw
                      obtain ⟨hbr, m0, m2⟩ := HAL.out
                      go_simp
                      exact hK.out _ _ ⟨HVA.out.set (i := 2) (by rw [HVV.out]; rfl), .inl ⟨((upd_ne (L := L) (show (9 : Nat) ≠ 2 by decide)).trans h9), ((upd_ne (L := L) (show (11 : Nat) ≠ 2 by decide)).trans h11), ((upd_ne (L := L) (show (13 : Nat) ≠ 2 by decide)).trans h13), rfl⟩⟩
                    focus
                      obtain ⟨d0, d2, _⟩ := hd
                      obtain ⟨ρ, hρ⟩ : ∃ ρ, a'.eval = ρ := ⟨_, rfl⟩
                      have hcst : ∀ v, ρ (.const v) = v := fun v => (congrFun hρ (.const v)).symm
                      have v0 : ρ (.tmp 149) = .func (.func 19) #[] #[.pointer (some ⟨p9, 0, none⟩), .pointer (some ⟨p10, 0, none⟩)] := (congrFun hρ (.tmp 149)).symm.trans ((HF.out.ev 0 rfl d0).trans (HVA.out 0 _ (by rw [HVV.out]; rfl) d0))
                      have v2 : ρ (.tmp 151) = .int .i64 O.frm := (congrFun hρ (.tmp 151)).symm.trans ((HF.out.ev 2 rfl d2).trans (HVA.out 2 _ (by rw [HVV.out]; rfl) d2))
                      rw [if_pos (by simp [Region.wanted])]
                      unfold Oper.wp
                      rw [hρ]
                      clear hρ
                      rcases hw with ⟨h9, h11, h13, hw⟩ | ⟨h9, h11, h13, ⟨h2, h3, h6, h7⟩, hw⟩ | ⟨h11, h9, h13, ⟨h2, h3, h6, h7⟩, hw⟩ | ⟨h13, h11, h9, ⟨h2, h3, h6, h7⟩, hw⟩
                      rotate_left
                      focus
                        rw [HLI.out] at h3
                        cases h3
                      focus
                        rw [HLI.out] at h3
                        cases h3
                      focus
                        rw [HLI.out] at h3
                        cases h3
                      subst hw
                      obtain ⟨m9, m10⟩ := HPK.out wA.drew HAL.out.1
                      have M9 := Lib.hid m9
                      have M10 := Lib.hid m10
                      clear m9 m10
                      go_simp
                      go_at_call 19
                      refine (moved_any wA.drew O.frm p9 p10 i j M9.out M10.out).mono ?_
                      rintro e w5 ⟨rfl, hw5⟩
                      rw [hw5]
                      exact hK.out _ _ ⟨HVA.out.set (i := 3) (by rw [HVV.out]; rfl), .inl ⟨((upd_ne (L := L) (show (9 : Nat) ≠ 3 by decide)).trans h9), ((upd_ne (L := L) (show (11 : Nat) ≠ 3 by decide)).trans h11), ((upd_ne (L := L) (show (13 : Nat) ≠ 3 by decide)).trans h13), rfl⟩⟩
                    focus
                      clear hd
                      obtain ⟨ρ, hρ⟩ : ∃ ρ, a'.eval = ρ := ⟨_, rfl⟩
                      have hcst : ∀ v, ρ (.const v) = v := fun v => (congrFun hρ (.const v)).symm
                      have l11 : ρ (.tmp 11) = .func (.func 19) #[] #[.pointer (some ⟨p9, 0, none⟩), .pointer (some ⟨p10, 0, none⟩)] := (congrFun hρ (.tmp 11)).symm.trans (HF.out.lo 11 rfl)
                      rw [if_pos (by simp [Region.wanted])]
                      unfold Oper.wp
                      rw [hρ]
                      clear hρ
                      have HW := Lib.hid hw
                      clear hw
                      go_simp
                      exact hK.out _ _ ⟨HVA.out.set (i := 4) (by rw [HVV.out]; rfl), by simp only [upd_ne (L := L) (show (2 : Nat) ≠ 4 by decide), upd_ne (L := L) (show (3 : Nat) ≠ 4 by decide), upd_ne (L := L) (show (6 : Nat) ≠ 4 by decide), upd_ne (L := L) (show (7 : Nat) ≠ 4 by decide), upd_ne (L := L) (show (9 : Nat) ≠ 4 by decide), upd_ne (L := L) (show (11 : Nat) ≠ 4 by decide), upd_ne (L := L) (show (13 : Nat) ≠ 4 by decide)]; exact HW.out⟩
                    focus
                      clear hd
                      obtain ⟨ρ, hρ⟩ : ∃ ρ, a'.eval = ρ := ⟨_, rfl⟩
                      have hcst : ∀ v, ρ (.const v) = v := fun v => (congrFun hρ (.const v)).symm
                      have l20 : ρ (.tmp 20) = .pointer (some ⟨b20, 0, none⟩) := (congrFun hρ (.tmp 20)).symm.trans (HF.out.lo 20 rfl)
                      rw [if_pos (by simp [Region.wanted])]
                      unfold Oper.wp
                      rw [hρ]
                      clear hρ
                      have HW := Lib.hid hw
                      clear hw
                      go_simp
                      exact hK.out _ _ ⟨HVA.out.set (i := 5) (by rw [HVV.out]; rfl), by simp only [upd_ne (L := L) (show (2 : Nat) ≠ 5 by decide), upd_ne (L := L) (show (3 : Nat) ≠ 5 by decide), upd_ne (L := L) (show (6 : Nat) ≠ 5 by decide), upd_ne (L := L) (show (7 : Nat) ≠ 5 by decide), upd_ne (L := L) (show (9 : Nat) ≠ 5 by decide), upd_ne (L := L) (show (11 : Nat) ≠ 5 by decide), upd_ne (L := L) (show (13 : Nat) ≠ 5 by decide)]; exact HW.out⟩
                    focus
                      obtain ⟨d5, _⟩ := hd
                      obtain ⟨ρ, hρ⟩ : ∃ ρ, a'.eval = ρ := ⟨_, rfl⟩
                      have hcst : ∀ v, ρ (.const v) = v := fun v => (congrFun hρ (.const v)).symm
                      have v5 : ρ (.tmp 154) = .pointer (some ⟨b20, 2, none⟩) := (congrFun hρ (.tmp 154)).symm.trans ((HF.out.ev 5 rfl d5).trans (HVA.out 5 _ (by rw [HVV.out]; rfl) d5))
                      rw [if_pos (by simp [Region.wanted])]
                      unfold Oper.wp
                      rw [hρ]
                      clear hρ
                      rcases hw with ⟨h9, h11, h13, hw⟩ | ⟨h9, h11, h13, ⟨h2, h3, h6, h7⟩, hw⟩ | ⟨h11, h9, h13, ⟨h2, h3, h6, h7⟩, hw⟩ | ⟨h13, h11, h9, ⟨h2, h3, h6, h7⟩, hw⟩
                      rotate_left
                      focus
                        rw [HLI.out] at h6
                        cases h6
                      focus
                        rw [HLI.out] at h6
                        cases h6
                      focus
                        rw [HLI.out] at h6
                        cases h6
                      subst hw
                      obtain ⟨hbr, m0, m2⟩ := HAL.out
                      go_simp
                      exact hK.out _ _ ⟨HVA.out.set (i := 6) (by rw [HVV.out]; rfl), .inl ⟨((upd_ne (L := L) (show (9 : Nat) ≠ 6 by decide)).trans h9), ((upd_ne (L := L) (show (11 : Nat) ≠ 6 by decide)).trans h11), ((upd_ne (L := L) (show (13 : Nat) ≠ 6 by decide)).trans h13), rfl⟩⟩
                    focus
                      obtain ⟨d4, d6, d3, _⟩ := hd
                      obtain ⟨ρ, hρ⟩ : ∃ ρ, a'.eval = ρ := ⟨_, rfl⟩
                      have hcst : ∀ v, ρ (.const v) = v := fun v => (congrFun hρ (.const v)).symm
                      have v4 : ρ (.tmp 153) = .func (.func 19) #[] #[.pointer (some ⟨p9, 0, none⟩), .pointer (some ⟨p10, 0, none⟩)] := (congrFun hρ (.tmp 153)).symm.trans ((HF.out.ev 4 rfl d4).trans (HVA.out 4 _ (by rw [HVV.out]; rfl) d4))
                      have v6 : ρ (.tmp 155) = .int .i64 O.dest := (congrFun hρ (.tmp 155)).symm.trans ((HF.out.ev 6 rfl d6).trans (HVA.out 6 _ (by rw [HVV.out]; rfl) d6))
                      rw [if_pos (by simp [Region.wanted])]
                      unfold Oper.wp
                      rw [hρ]
                      clear hρ
                      rcases hw with ⟨h9, h11, h13, hw⟩ | ⟨h9, h11, h13, ⟨h2, h3, h6, h7⟩, hw⟩ | ⟨h11, h9, h13, ⟨h2, h3, h6, h7⟩, hw⟩ | ⟨h13, h11, h9, ⟨h2, h3, h6, h7⟩, hw⟩
                      rotate_left
                      focus
                        rw [HLI.out] at h7
                        cases h7
                      focus
                        rw [HLI.out] at h7
                        cases h7
                      focus
                        rw [HLI.out] at h7
                        cases h7
                      subst hw
                      obtain ⟨m9, m10⟩ := HPK.out wA.drew HAL.out.1
                      have M9 := Lib.hid m9
                      have M10 := Lib.hid m10
                      clear m9 m10
                      go_simp
                      go_at_call 19
                      refine (moved_any wA.drew O.dest p9 p10 i j M9.out M10.out).mono ?_
                      rintro e w5 ⟨rfl, hw5⟩
                      rw [hw5]
                      exact hK.out _ _ ⟨HVA.out.set (i := 7) (by rw [HVV.out]; rfl), .inl ⟨((upd_ne (L := L) (show (9 : Nat) ≠ 7 by decide)).trans h9), ((upd_ne (L := L) (show (11 : Nat) ≠ 7 by decide)).trans h11), ((upd_ne (L := L) (show (13 : Nat) ≠ 7 by decide)).trans h13), rfl⟩⟩
                    focus
                      obtain ⟨d0, d1, d2, d3, d5, d6, _⟩ := hd
                      obtain ⟨ρ, hρ⟩ : ∃ ρ, a'.eval = ρ := ⟨_, rfl⟩
                      have hcst : ∀ v, ρ (.const v) = v := fun v => (congrFun hρ (.const v)).symm
                      have l20 : ρ (.tmp 20) = .pointer (some ⟨b20, 0, none⟩) := (congrFun hρ (.tmp 20)).symm.trans (HF.out.lo 20 rfl)
                      rw [if_pos (by simp [Region.wanted])]
                      unfold Oper.wp
                      rw [hρ]
                      clear hρ
                      have HW := Lib.hid hw
                      clear hw
                      go_simp
                      exact hK.out _ _ ⟨HVA.out.set (i := 8) (by rw [HVV.out]; rfl), by simp only [upd_ne (L := L) (show (2 : Nat) ≠ 8 by decide), upd_ne (L := L) (show (3 : Nat) ≠ 8 by decide), upd_ne (L := L) (show (6 : Nat) ≠ 8 by decide), upd_ne (L := L) (show (7 : Nat) ≠ 8 by decide), upd_ne (L := L) (show (9 : Nat) ≠ 8 by decide), upd_ne (L := L) (show (11 : Nat) ≠ 8 by decide), upd_ne (L := L) (show (13 : Nat) ≠ 8 by decide)]; exact HW.out⟩
                    focus
                      obtain ⟨d8, d3, d7, d0, d1, d2, _, d5, d6, _⟩ := hd
                      obtain ⟨ρ, hρ⟩ : ∃ ρ, a'.eval = ρ := ⟨_, rfl⟩
                      have hcst : ∀ v, ρ (.const v) = v := fun v => (congrFun hρ (.const v)).symm
                      have v8 : ρ (.tmp 157) = .pointer (some ⟨b20, 0, none⟩) := (congrFun hρ (.tmp 157)).symm.trans ((HF.out.ev 8 rfl d8).trans (HVA.out 8 _ (by rw [HVV.out]; rfl) d8))
                      have v3 : ρ (.tmp 152) = .int .i64 (movedI i j O.frm) := (congrFun hρ (.tmp 152)).symm.trans ((HF.out.ev 3 rfl d3).trans (HVA.out 3 _ (by rw [HVV.out]; rfl) d3))
                      rw [if_pos (by simp [Region.wanted])]
                      unfold Oper.wp
                      rw [hρ]
                      clear hρ
                      rcases hw with ⟨h9, h11, h13, hw⟩ | ⟨h9, h11, h13, ⟨h2, h3, h6, h7⟩, hw⟩ | ⟨h11, h9, h13, ⟨h2, h3, h6, h7⟩, hw⟩ | ⟨h13, h11, h9, ⟨h2, h3, h6, h7⟩, hw⟩
                      rotate_left
                      focus
                        rw [HLI.out] at h9
                        cases h9
                      focus
                        rw [HLI.out] at h9
                        cases h9
                      focus
                        rw [HLI.out] at h9
                        cases h9
                      subst hw
                      have c0 := HCA.out.cell 0
                      have f0 := HCA.out.free 0
                      simp at c0
                      go_simp
                      rw [HY1.out]
                      exact hK.out _ _ ⟨HVA.out.free (i := 9) (by rw [HVV.out]; rfl) undef, .inr (.inl ⟨upd_self _ _, ((upd_ne (L := L) (show (11 : Nat) ≠ 9 by decide)).trans h11), ((upd_ne (L := L) (show (13 : Nat) ≠ 9 by decide)).trans h13), ⟨((upd_ne (L := L) (show (2 : Nat) ≠ 9 by decide)).trans d2), ((upd_ne (L := L) (show (3 : Nat) ≠ 9 by decide)).trans d3), ((upd_ne (L := L) (show (6 : Nat) ≠ 9 by decide)).trans d6), ((upd_ne (L := L) (show (7 : Nat) ≠ 9 by decide)).trans d7)⟩, rfl⟩)⟩
                    focus
                      obtain ⟨d0, d1, d2, d3, d4, d5, d6, d7, d8, d9, _⟩ := hd
                      obtain ⟨ρ, hρ⟩ : ∃ ρ, a'.eval = ρ := ⟨_, rfl⟩
                      have hcst : ∀ v, ρ (.const v) = v := fun v => (congrFun hρ (.const v)).symm
                      have l20 : ρ (.tmp 20) = .pointer (some ⟨b20, 0, none⟩) := (congrFun hρ (.tmp 20)).symm.trans (HF.out.lo 20 rfl)
                      rw [if_pos (by simp [Region.wanted])]
                      unfold Oper.wp
                      rw [hρ]
                      clear hρ
                      have HW := Lib.hid hw
                      clear hw
                      go_simp
                      exact hK.out _ _ ⟨HVA.out.set (i := 10) (by rw [HVV.out]; rfl), by simp only [upd_ne (L := L) (show (2 : Nat) ≠ 10 by decide), upd_ne (L := L) (show (3 : Nat) ≠ 10 by decide), upd_ne (L := L) (show (6 : Nat) ≠ 10 by decide), upd_ne (L := L) (show (7 : Nat) ≠ 10 by decide), upd_ne (L := L) (show (9 : Nat) ≠ 10 by decide), upd_ne (L := L) (show (11 : Nat) ≠ 10 by decide), upd_ne (L := L) (show (13 : Nat) ≠ 10 by decide)]; exact HW.out⟩
                    focus
                      obtain ⟨d10, d7, d9, d0, d1, d2, d3, d4, d5, d6, _, d8, _, _⟩ := hd
                      obtain ⟨ρ, hρ⟩ : ∃ ρ, a'.eval = ρ := ⟨_, rfl⟩
                      have hcst : ∀ v, ρ (.const v) = v := fun v => (congrFun hρ (.const v)).symm
                      have v10 : ρ (.tmp 158) = .pointer (some ⟨b20, 2, none⟩) := (congrFun hρ (.tmp 158)).symm.trans ((HF.out.ev 10 rfl d10).trans (HVA.out 10 _ (by rw [HVV.out]; rfl) d10))
                      have v7 : ρ (.tmp 156) = .int .i64 (movedI i j O.dest) := (congrFun hρ (.tmp 156)).symm.trans ((HF.out.ev 7 rfl d7).trans (HVA.out 7 _ (by rw [HVV.out]; rfl) d7))
                      rw [if_pos (by simp [Region.wanted])]
                      unfold Oper.wp
                      rw [hρ]
                      clear hρ
                      rcases hw with ⟨h9, h11, h13, hw⟩ | ⟨h9, h11, h13, ⟨h2, h3, h6, h7⟩, hw⟩ | ⟨h11, h9, h13, ⟨h2, h3, h6, h7⟩, hw⟩ | ⟨h13, h11, h9, ⟨h2, h3, h6, h7⟩, hw⟩
                      focus
                        rw [h9] at d9
                        cases d9
                      rotate_left
                      focus
                        rw [HLI.out] at h11
                        cases h11
                      focus
                        rw [HLI.out] at h11
                        cases h11
                      obtain rfl := hw
                      have c2 := HC1.out.cell 2
                      have f2 := HC1.out.free 2
                      simp at c2
                      go_simp
                      rw [HY2'.out]
                      exact hK.out _ _ ⟨HVA.out.free (i := 11) (by rw [HVV.out]; rfl) undef, .inr (.inr (.inl ⟨upd_self _ _, ((upd_ne (L := L) (show (9 : Nat) ≠ 11 by decide)).trans h9), ((upd_ne (L := L) (show (13 : Nat) ≠ 11 by decide)).trans h13), ⟨((upd_ne (L := L) (show (2 : Nat) ≠ 11 by decide)).trans h2), ((upd_ne (L := L) (show (3 : Nat) ≠ 11 by decide)).trans h3), ((upd_ne (L := L) (show (6 : Nat) ≠ 11 by decide)).trans h6), ((upd_ne (L := L) (show (7 : Nat) ≠ 11 by decide)).trans h7)⟩, rfl⟩))⟩
                    focus
                      obtain ⟨d0, d1, d2, d3, d4, d5, d6, d7, d8, d9, d10, d11, _⟩ := hd
                      obtain ⟨ρ, hρ⟩ : ∃ ρ, a'.eval = ρ := ⟨_, rfl⟩
                      have hcst : ∀ v, ρ (.const v) = v := fun v => (congrFun hρ (.const v)).symm
                      have l20 : ρ (.tmp 20) = .pointer (some ⟨b20, 0, none⟩) := (congrFun hρ (.tmp 20)).symm.trans (HF.out.lo 20 rfl)
                      rw [if_pos (by simp [Region.wanted])]
                      unfold Oper.wp
                      rw [hρ]
                      clear hρ
                      have HW := Lib.hid hw
                      clear hw
                      go_simp
                      exact hK.out _ _ ⟨HVA.out.set (i := 12) (by rw [HVV.out]; rfl), by simp only [upd_ne (L := L) (show (2 : Nat) ≠ 12 by decide), upd_ne (L := L) (show (3 : Nat) ≠ 12 by decide), upd_ne (L := L) (show (6 : Nat) ≠ 12 by decide), upd_ne (L := L) (show (7 : Nat) ≠ 12 by decide), upd_ne (L := L) (show (9 : Nat) ≠ 12 by decide), upd_ne (L := L) (show (11 : Nat) ≠ 12 by decide), upd_ne (L := L) (show (13 : Nat) ≠ 12 by decide)]; exact HW.out⟩
                    focus
                      obtain ⟨d12, d11, d0, d1, d2, d3, d4, d5, d6, d7, d8, d9, d10, _, _⟩ := hd
                      obtain ⟨ρ, hρ⟩ : ∃ ρ, a'.eval = ρ := ⟨_, rfl⟩
                      have hcst : ∀ v, ρ (.const v) = v := fun v => (congrFun hρ (.const v)).symm
                      have v12 : ρ (.tmp 159) = .pointer (some ⟨b20, 8, none⟩) := (congrFun hρ (.tmp 159)).symm.trans ((HF.out.ev 12 rfl d12).trans (HVA.out 12 _ (by rw [HVV.out]; rfl) d12))
                      rw [if_pos (by simp [Region.wanted])]
                      unfold Oper.wp
                      rw [hρ]
                      clear hρ
                      rcases hw with ⟨h9, h11, h13, hw⟩ | ⟨h9, h11, h13, ⟨h2, h3, h6, h7⟩, hw⟩ | ⟨h11, h9, h13, ⟨h2, h3, h6, h7⟩, hw⟩ | ⟨h13, h11, h9, ⟨h2, h3, h6, h7⟩, hw⟩
                      focus
                        rw [h11] at d11
                        cases d11
                      focus
                        rw [h11] at d11
                        cases d11
                      rotate_left
                      focus
                        rw [HLI.out] at h13
                        cases h13
                      obtain rfl := hw
                      have c8 := HC2.out.cell 8
                      have f8 := HC2.out.free 8
                      simp at c8
                      go_simp
                      rw [HY3.out]
                      exact hK.out _ _ ⟨HVA.out.free (i := 13) (by rw [HVV.out]; rfl) undef, .inr (.inr (.inr ⟨upd_self _ _, ((upd_ne (L := L) (show (11 : Nat) ≠ 13 by decide)).trans h11), ((upd_ne (L := L) (show (9 : Nat) ≠ 13 by decide)).trans h9), ⟨((upd_ne (L := L) (show (2 : Nat) ≠ 13 by decide)).trans h2), ((upd_ne (L := L) (show (3 : Nat) ≠ 13 by decide)).trans h3), ((upd_ne (L := L) (show (6 : Nat) ≠ 13 by decide)).trans h6), ((upd_ne (L := L) (show (7 : Nat) ≠ 13 by decide)).trans h7)⟩, rfl⟩))⟩
                  focus
                    intro L w' xs hL hJ
                    obtain ⟨hv, hw⟩ := hJ
                    have e0 : xs 0 = .func (.func 19) #[] #[.pointer (some ⟨p9, 0, none⟩), .pointer (some ⟨p10, 0, none⟩)] := hv 0 _ (by rw [HVV.out]; rfl) (hL 0 (by decide))
                    have e1 : xs 1 = .pointer (some ⟨b20, 0, none⟩) := hv 1 _ (by rw [HVV.out]; rfl) (hL 1 (by decide))
                    have e2 : xs 2 = .int .i64 O.frm := hv 2 _ (by rw [HVV.out]; rfl) (hL 2 (by decide))
                    have e3 : xs 3 = .int .i64 (movedI i j O.frm) := hv 3 _ (by rw [HVV.out]; rfl) (hL 3 (by decide))
                    have e4 : xs 4 = .func (.func 19) #[] #[.pointer (some ⟨p9, 0, none⟩), .pointer (some ⟨p10, 0, none⟩)] := hv 4 _ (by rw [HVV.out]; rfl) (hL 4 (by decide))
                    have e5 : xs 5 = .pointer (some ⟨b20, 2, none⟩) := hv 5 _ (by rw [HVV.out]; rfl) (hL 5 (by decide))
                    have e6 : xs 6 = .int .i64 O.dest := hv 6 _ (by rw [HVV.out]; rfl) (hL 6 (by decide))
                    have e7 : xs 7 = .int .i64 (movedI i j O.dest) := hv 7 _ (by rw [HVV.out]; rfl) (hL 7 (by decide))
                    have e8 : xs 8 = .pointer (some ⟨b20, 0, none⟩) := hv 8 _ (by rw [HVV.out]; rfl) (hL 8 (by decide))
                    have e10 : xs 10 = .pointer (some ⟨b20, 2, none⟩) := hv 10 _ (by rw [HVV.out]; rfl) (hL 10 (by decide))
                    have e12 : xs 12 = .pointer (some ⟨b20, 8, none⟩) := hv 12 _ (by rw [HVV.out]; rfl) (hL 12 (by decide))
                    simp only [putGo, Act.put, List.setIfInBounds_toArray, List.set_cons_zero, List.set_cons_succ, e0, e1, e2, e3, e4, e5, e6, e7, e8, e10, e12]
                    clear hv e0 e1 e2 e3 e4 e5 e6 e7 e8 e10 e12
                    rcases hw with ⟨_, _, h13, _⟩ | ⟨_, _, h13, _⟩ | ⟨_, _, h13, _⟩ | ⟨_, _, _, _, hw⟩
                    · rw [hL 13 (by decide)] at h13; cases h13
                    · rw [hL 13 (by decide)] at h13; cases h13
                    · rw [hL 13 (by decide)] at h13; cases h13
                    rw [hw]
                    clear hw hL
                    go_upto_region 32 with fail
                    obtain ⟨tM, hM⟩ := HMY.out
                    go_wp2_with (refine wpList_load_row rfl 45 (.tmp 21) rfl b21 rfl tM (markC f) (0, 0) _ hM Try.underlying45 rfl (by rw [markC_size]; kernel_rfl) ?_)
                    clear hM
                    have hpl := pickL_len f
                    go_loopw [161] (fun kv wr => ∃ (q : Nat) (vh : Value), q ≤ 24 ∧ kv = .int .i64 q ∧ CellsN wr b20 #[.int .i64 (movedI i j O.frm), .int .i64 O.person, .int .i64 (movedI i j O.dest), .int .i64 O.cls, .int .i64 O.after, .int .i64 O.by_, .int .i64 O.crowd, .int .i64 O.pay, vh, .bool O.back, .int .i64 O.els] ∧ OwnInts Y3.heap.size wr vh (pickL f q) ∧ Below wk.heap.size wk wr ∧ Y3.heap.size ≤ wr.heap.size) (fun kv _ => 24 - (intOf kv).toNat)
                    case atStart => exact ⟨0, _, by omega, rfl, HC3.out, OwnInts.nil _ _, HBY.out, Nat.le_refl _⟩
                    case round =>
                      obtain ⟨q, vh, hq, rfl, hc, ho, hb, hs⟩ := hrel
                      obtain ⟨av2, nv2, cv2, rfl⟩ := ho.form'
                      have HC4 := Lib.hid hc
                      have HO4 := Lib.hid ho
                      have HB4' := Lib.hid hb
                      have hb20y := HC3.out.lt
                      have hown : ∀ z, Value.ownBlock (.slice av2 nv2 cv2) = some z → Y3.heap.size ≤ z := fun z e => (ho.1.lt z e).1
                      have HOWN := Lib.hid hown
                      clear hown
                      by_cases hq24 : q < 24
                      focus
                        have hidx := index_mark (w := wr) (f := f) hq24
                        have HPS := Lib.hid (pickL_succ f q)
                        have HPLN := Lib.hid (hpl q)
                        have hqi : (q : Int) < 24 := by omega
                        have hq0 : (0 : Int) ≤ (q : Int) := by omega
                        obtain ⟨t, ht⟩ : ∃ t, f q = t := ⟨_, rfl⟩
                        rw [ht] at hidx HPS
                        clear hc ho hb ht
                        cases t
                        · go_wp2
                          go_roundw
                          case rel => exact ⟨q + 1, _, by omega, by go_num, HC4.out, by rw [HPS.out]; simpa using HO4.out, HB4'.out, hs⟩
                          case measure => simp [intOf]; omega
                        · have c8 := HC4.out.cell 8
                          simp at c8
                          go_wp2_with (at_builtin; refine append_int (n := (q : Int)) rfl (.tmp 167) (.tmp 169) rfl rfl (HO4.out.alloc _) rfl (World.cell?_alloc_at _ _ _ _ rfl) (by unfold I64; omega) (by have := HPLN.out; omega) (by simp; omega) ?_; intro v6 w6 ho6 hg6; obtain ⟨a6, n6, c6', rfl⟩ := ho6.form'; have HO6' := Lib.hid ho6; have HG6' := Lib.hid hg6; have hc6 := (HC4.out.alloc (.cells #[.int .i64 (q : Int)] 3)).grown hg6 (fun e => by have := HOWN.out _ e.symm; omega); have HC6' := Lib.hid hc6; have f8 := hc6.free 8; have c86 := hc6.cell 8; simp at c86; clear ho6 hg6 hc6 c8)
                          go_roundw
                          case rel =>
                            have hgr := grown_setCell w6 ⟨b20, 8, none⟩ (.slice a6 n6 c6')
                            have hb6 : Below wk.heap.size wk w6 := (HB4'.out.alloc HB4'.out.size (.cells #[.int .i64 (q : Int)] 3)).grown HG6'.out (by have := HB4'.out.size; simp; omega) (fun z e => by have := HOWN.out z e; have := HBY.out.size; omega)
                            refine ⟨q + 1, .slice a6 n6 c6', by omega, by go_num, by have h := HC6'.out.set 8 (.slice a6 n6 c6'); simpa using h, ?_, hb6.setCell (p := ⟨b20, 8, none⟩) (by rw [HB20.out]; exact Nat.le_refl _) _, ?_⟩
                            · rw [HPS.out, if_pos rfl]
                              exact HO6'.out.kept hgr (.inr (fun e => by have := (HO6'.out.1.lt b20 e).1; omega))
                            · have h1 := HG6'.out.size
                              have h2 := hgr.size
                              simp at h1
                              omega
                          case measure => simp [intOf]; omega
                      obtain rfl : q = 24 := by omega
                      obtain ⟨wB, rfl⟩ : ∃ W, W = wr := ⟨_, rfl⟩
                      rw [← HF.out, pick_sort (by omega) (by omega) HOSK.out.2.2.2.2.2.1 HOSK.out.2.2.2.2.2.2] at ho
                      clear hq24 hpl
                      have hbr : Below r2.heap.size r2 wB := HBK.out.trans (hb.mono HBK.out.size)
                      have hyo := HYK.out wB hbr
                      rw [show os.length = (os.map (movedO i j)).length from (List.length_map ..).symm] at hyo
                      obtain ⟨by', oy, vb, rfl, bby, hib, hokb, k0, k1, k2, k3, k4, k5, k6, k7, k8, k9, k10⟩ := IsOrders.cell hyo (show k < (os.map (movedO i j)).length by rw [List.length_map]; exact hlt)
                      obtain ⟨O2, hO2⟩ : ∃ O, orderAt (os.map (movedO i j)) k = O := ⟨_, rfl⟩
                      rw [hO2] at hib hokb k0 k1 k2 k3 k4 k5 k6 k7 k9 k10
                      have hO2' : O2 = movedO i j O := by rw [← hO2, orderAt_get (by rw [List.length_map]; exact hlt), List.getElem_map, ← orderAt_get hlt, HOO.out]
                      have HO2 := Lib.hid hO2'
                      obtain ⟨b9, o9, cb, ⟨ab, eb, hq1, hq2, hq4⟩, hq3, hq5, hq6⟩ := id hib
                      subst eb
                      obtain ⟨av3, cv3, e3, _⟩ := ho.form
                      cases e3
                      have HCK : Hid (∀ W, Below wB.heap.size wB W → CellsN W b20 #[.int .i64 (movedI i j O.frm), .int .i64 O.person, .int .i64 (movedI i j O.dest), .int .i64 O.cls, .int .i64 O.after, .int .i64 O.by_, .int .i64 O.crowd, .int .i64 O.pay, .slice av2 (sortI (O.against.map (movedI i j))).length cv2, .bool O.back, .int .i64 O.els]) := Lib.hid fun W hW => hc.ext hW
                      have HYC : Hid (∀ W, Below wB.heap.size wB W → W.cell? ⟨by', oy + k * 11, none⟩ = some (.int .i64 O2.frm) ∧ W.cell? ⟨by', oy + k * 11 + 1, none⟩ = some (.int .i64 O2.person) ∧ W.cell? ⟨by', oy + k * 11 + 2, none⟩ = some (.int .i64 O2.dest) ∧ W.cell? ⟨by', oy + k * 11 + 3, none⟩ = some (.int .i64 O2.cls) ∧ W.cell? ⟨by', oy + k * 11 + 4, none⟩ = some (.int .i64 O2.after) ∧ W.cell? ⟨by', oy + k * 11 + 5, none⟩ = some (.int .i64 O2.by_) ∧ W.cell? ⟨by', oy + k * 11 + 6, none⟩ = some (.int .i64 O2.crowd) ∧ W.cell? ⟨by', oy + k * 11 + 7, none⟩ = some (.int .i64 O2.pay) ∧ W.cell? ⟨by', oy + k * 11 + 8, none⟩ = some (.slice ab O2.against.length cb) ∧ W.cell? ⟨by', oy + k * 11 + 9, none⟩ = some (.bool O2.back) ∧ W.cell? ⟨by', oy + k * 11 + 10, none⟩ = some (.int .i64 O2.els)) := Lib.hid fun W hW =>
                        have hl : by' < wB.heap.size := by have := hbr.size; omega
                        ⟨(hW.cell (p := ⟨by', oy + k * 11, none⟩) hl).trans k0, (hW.cell (p := ⟨by', oy + k * 11 + 1, none⟩) hl).trans k1, (hW.cell (p := ⟨by', oy + k * 11 + 2, none⟩) hl).trans k2, (hW.cell (p := ⟨by', oy + k * 11 + 3, none⟩) hl).trans k3, (hW.cell (p := ⟨by', oy + k * 11 + 4, none⟩) hl).trans k4, (hW.cell (p := ⟨by', oy + k * 11 + 5, none⟩) hl).trans k5, (hW.cell (p := ⟨by', oy + k * 11 + 6, none⟩) hl).trans k6, (hW.cell (p := ⟨by', oy + k * 11 + 7, none⟩) hl).trans k7, (hW.cell (p := ⟨by', oy + k * 11 + 8, none⟩) hl).trans k8, (hW.cell (p := ⟨by', oy + k * 11 + 9, none⟩) hl).trans k9, (hW.cell (p := ⟨by', oy + k * 11 + 10, none⟩) hl).trans k10⟩
                      have HCALL : Hid (∀ W, Below wB.heap.size wB W → Calls Try.prog 20 #[.agg #[.int .i64 (movedI i j O.frm), .int .i64 O.person, .int .i64 (movedI i j O.dest), .int .i64 O.cls, .int .i64 O.after, .int .i64 O.by_, .int .i64 O.crowd, .int .i64 O.pay, .slice av2 (sortI (O.against.map (movedI i j))).length cv2, .bool O.back, .int .i64 O.els], .agg #[.int .i64 O2.frm, .int .i64 O2.person, .int .i64 O2.dest, .int .i64 O2.cls, .int .i64 O2.after, .int .i64 O2.by_, .int .i64 O2.crowd, .int .i64 O2.pay, .slice ab O2.against.length cb, .bool O2.back, .int .i64 O2.els]] W fun e w' => e = .returned (.bool true) ∧ Below W.heap.size W w') := Lib.hid fun W hW => by
                        have h := rsorder_any W.heap.size W (.slice av2 (sortI (O.against.map (movedI i j))).length cv2) (.slice ab O2.against.length cb) (movedO i j O) O2 (Nat.le_refl _) (((ho.isInts).below hW (Nat.le_refl _)).mono hW.size) ((hib.below (hW.mono hbr.size) (Nat.le_refl _)).mono (by have := hbr.size; have := hW.size; omega))
                        rw [show sameO (movedO i j O) O2 = true from by rw [hO2']; unfold sameO; simp] at h
                        exact h
                      have hki : (k : Int) < (os.length : Int) := by omega
                      have hk0 : (0 : Int) ≤ (k : Int) := by omega
                      clear hc ho hb hs hyo hib hokb k0 k1 k2 k3 k4 k5 k6 k7 k8 k9 k10 hO2 hO2' hq1 hq2 hq4 hq3 hq5 hq6 bby
                      have HBR' := Lib.hid hbr
                      clear hbr
                      go_upto_region 38 with fail
                      obtain ⟨V, hV⟩ : ∃ V : List (Option Value), V = [some (.agg #[.int .i64 (movedI i j O.frm), .int .i64 O.person, .int .i64 (movedI i j O.dest), .int .i64 O.cls, .int .i64 O.after, .int .i64 O.by_, .int .i64 O.crowd, .int .i64 O.pay, .slice av2 (sortI (O.against.map (movedI i j))).length cv2, .bool O.back, .int .i64 O.els]), some (.slice (some ⟨by', oy, none⟩) os.length cy), some (.int .i64 (k : Int)), some (.pointer (some ⟨by', oy + k * 11, none⟩)), some (.agg #[.int .i64 O2.frm, .int .i64 O2.person, .int .i64 O2.dest, .int .i64 O2.cls, .int .i64 O2.after, .int .i64 O2.by_, .int .i64 O2.crowd, .int .i64 O2.pay, .slice ab O2.against.length cb, .bool O2.back, .int .i64 O2.els]), some (.bool true), some (.bool false)] := ⟨_, rfl⟩
                      have HVV := Lib.hid hV
                      clear hV
                      refine wp_region_V [some 173, some 174, some 175, some 176, some 177, some 178, some 179] (fun L w' xs => ValsAt V L xs ∧ (Below wB.heap.size wB w')) (by kernel_rfl) (by kernel_rfl) (by rfl) (by rfl) (by rfl) ?_ ?_ ?_
                      focus
                        exact fun xs => ⟨ValsAt.none _ _, (Below.refl _ _).drew⟩
                      focus
                        refine ⟨?_, ?_, ?_, ?_, ?_, ?_, ?_, trivial⟩
                        all_goals
                          intro L a' w' xs hi hd hf hJ K hK
                          obtain ⟨hv, hb⟩ := hJ
                          have HF := Lib.hid hf
                          have HVA := Lib.hid hv
                          have HLI := Lib.hid hi
                          clear hf hv hi
                        focus
                          clear hd
                          obtain ⟨ρ, hρ⟩ : ∃ ρ, a'.eval = ρ := ⟨_, rfl⟩
                          have hcst : ∀ v, ρ (.const v) = v := fun v => (congrFun hρ (.const v)).symm
                          have l20 : ρ (.tmp 20) = .pointer (some ⟨b20, 0, none⟩) := (congrFun hρ (.tmp 20)).symm.trans (HF.out.lo 20 rfl)
                          rw [if_pos (by simp [Region.wanted])]
                          unfold Oper.wp
                          rw [hρ]
                          clear hρ
                          have h := HCK.out _ hb
                          have c0 := h.cell 0
                          have c1 := h.cell 1
                          have c2 := h.cell 2
                          have c3 := h.cell 3
                          have c4 := h.cell 4
                          have c5 := h.cell 5
                          have c6 := h.cell 6
                          have c7 := h.cell 7
                          have c8 := h.cell 8
                          have c9 := h.cell 9
                          have c10 := h.cell 10
                          simp at c0 c1 c2 c3 c4 c5 c6 c7 c8 c9 c10
                          clear h
                          go_simp
                          exact hK.out _ _ ⟨HVA.out.set (i := 0) (by rw [HVV.out]; rfl), hb⟩
                        focus
                          clear hd
                          obtain ⟨ρ, hρ⟩ : ∃ ρ, a'.eval = ρ := ⟨_, rfl⟩
                          have hcst : ∀ v, ρ (.const v) = v := fun v => (congrFun hρ (.const v)).symm
                          have l17 : ρ (.tmp 17) = .slice (some ⟨by', oy, none⟩) os.length cy := (congrFun hρ (.tmp 17)).symm.trans (HF.out.lo 17 rfl)
                          rw [if_pos (by simp [Region.wanted])]
                          unfold Oper.wp
                          rw [hρ]
                          clear hρ
                          go_simp
                          exact hK.out _ _ ⟨HVA.out.set (i := 1) (by rw [HVV.out]; rfl), hb⟩
                        focus
                          clear hd
                          obtain ⟨ρ, hρ⟩ : ∃ ρ, a'.eval = ρ := ⟨_, rfl⟩
                          have hcst : ∀ v, ρ (.const v) = v := fun v => (congrFun hρ (.const v)).symm
                          have l19 : ρ (.tmp 19) = .int .i64 (k : Int) := (congrFun hρ (.tmp 19)).symm.trans (HF.out.lo 19 rfl)
                          rw [if_pos (by simp [Region.wanted])]
                          unfold Oper.wp
                          rw [hρ]
                          clear hρ
                          go_simp
                          exact hK.out _ _ ⟨HVA.out.set (i := 2) (by rw [HVV.out]; rfl), hb⟩
                        focus
                          obtain ⟨d1, d2, _⟩ := hd
                          obtain ⟨ρ, hρ⟩ : ∃ ρ, a'.eval = ρ := ⟨_, rfl⟩
                          have hcst : ∀ v, ρ (.const v) = v := fun v => (congrFun hρ (.const v)).symm
                          have v1 : ρ (.tmp 174) = .slice (some ⟨by', oy, none⟩) os.length cy := (congrFun hρ (.tmp 174)).symm.trans ((HF.out.ev 1 rfl d1).trans (HVA.out 1 _ (by rw [HVV.out]; rfl) d1))
                          have v2 : ρ (.tmp 175) = .int .i64 (k : Int) := (congrFun hρ (.tmp 175)).symm.trans ((HF.out.ev 2 rfl d2).trans (HVA.out 2 _ (by rw [HVV.out]; rfl) d2))
                          rw [if_pos (by simp [Region.wanted])]
                          unfold Oper.wp
                          rw [hρ]
                          clear hρ
                          go_simp
                          exact hK.out _ _ ⟨HVA.out.set (i := 3) (by rw [HVV.out]; rfl), hb⟩
                        focus
                          obtain ⟨d3, _⟩ := hd
                          obtain ⟨ρ, hρ⟩ : ∃ ρ, a'.eval = ρ := ⟨_, rfl⟩
                          have hcst : ∀ v, ρ (.const v) = v := fun v => (congrFun hρ (.const v)).symm
                          have v3 : ρ (.tmp 176) = .pointer (some ⟨by', oy + k * 11, none⟩) := (congrFun hρ (.tmp 176)).symm.trans ((HF.out.ev 3 rfl d3).trans (HVA.out 3 _ (by rw [HVV.out]; rfl) d3))
                          rw [if_pos (by simp [Region.wanted])]
                          unfold Oper.wp
                          rw [hρ]
                          clear hρ
                          obtain ⟨c0, c1, c2, c3, c4, c5, c6, c7, c8, c9, c10⟩ := HYC.out _ hb
                          go_simp
                          exact hK.out _ _ ⟨HVA.out.set (i := 4) (by rw [HVV.out]; rfl), hb⟩
                        focus
                          obtain ⟨d0, d4, _⟩ := hd
                          obtain ⟨ρ, hρ⟩ : ∃ ρ, a'.eval = ρ := ⟨_, rfl⟩
                          have hcst : ∀ v, ρ (.const v) = v := fun v => (congrFun hρ (.const v)).symm
                          have hfun : ∀ k, ρ (.func k) = .func (.func k) #[] #[] := fun k => (congrFun hρ (.func k)).symm
                          have v0 : ρ (.tmp 173) = .agg #[.int .i64 (movedI i j O.frm), .int .i64 O.person, .int .i64 (movedI i j O.dest), .int .i64 O.cls, .int .i64 O.after, .int .i64 O.by_, .int .i64 O.crowd, .int .i64 O.pay, .slice av2 (sortI (O.against.map (movedI i j))).length cv2, .bool O.back, .int .i64 O.els] := (congrFun hρ (.tmp 173)).symm.trans ((HF.out.ev 0 rfl d0).trans (HVA.out 0 _ (by rw [HVV.out]; rfl) d0))
                          have v4 : ρ (.tmp 177) = .agg #[.int .i64 O2.frm, .int .i64 O2.person, .int .i64 O2.dest, .int .i64 O2.cls, .int .i64 O2.after, .int .i64 O2.by_, .int .i64 O2.crowd, .int .i64 O2.pay, .slice ab O2.against.length cb, .bool O2.back, .int .i64 O2.els] := (congrFun hρ (.tmp 177)).symm.trans ((HF.out.ev 4 rfl d4).trans (HVA.out 4 _ (by rw [HVV.out]; rfl) d4))
                          rw [if_pos (by simp [Region.wanted])]
                          unfold Oper.wp
                          rw [hρ]
                          clear hρ
                          go_simp
                          go_at_call 20
                          refine (HCALL.out _ hb).mono ?_
                          rintro e w5 ⟨rfl, hb5⟩
                          exact hK.out _ _ ⟨HVA.out.set (i := 5) (by rw [HVV.out]; rfl), hb.trans (hb5.mono hb.size)⟩
                        focus
                          obtain ⟨d5, _⟩ := hd
                          obtain ⟨ρ, hρ⟩ : ∃ ρ, a'.eval = ρ := ⟨_, rfl⟩
                          have hcst : ∀ v, ρ (.const v) = v := fun v => (congrFun hρ (.const v)).symm
                          have v5 : ρ (.tmp 178) = .bool true := (congrFun hρ (.tmp 178)).symm.trans ((HF.out.ev 5 rfl d5).trans (HVA.out 5 _ (by rw [HVV.out]; rfl) d5))
                          rw [if_pos (by simp [Region.wanted])]
                          unfold Oper.wp
                          rw [hρ]
                          clear hρ
                          go_simp
                          exact hK.out _ _ ⟨HVA.out.set (i := 6) (by rw [HVV.out]; rfl), hb⟩
                      focus
                        intro L w' xs hL hJ
                        obtain ⟨hv, hb⟩ := hJ
                        have e0 : xs 0 = .agg #[.int .i64 (movedI i j O.frm), .int .i64 O.person, .int .i64 (movedI i j O.dest), .int .i64 O.cls, .int .i64 O.after, .int .i64 O.by_, .int .i64 O.crowd, .int .i64 O.pay, .slice av2 (sortI (O.against.map (movedI i j))).length cv2, .bool O.back, .int .i64 O.els] := hv 0 _ (by rw [HVV.out]; rfl) (hL 0 (by decide))
                        have e1 : xs 1 = .slice (some ⟨by', oy, none⟩) os.length cy := hv 1 _ (by rw [HVV.out]; rfl) (hL 1 (by decide))
                        have e2 : xs 2 = .int .i64 (k : Int) := hv 2 _ (by rw [HVV.out]; rfl) (hL 2 (by decide))
                        have e3 : xs 3 = .pointer (some ⟨by', oy + k * 11, none⟩) := hv 3 _ (by rw [HVV.out]; rfl) (hL 3 (by decide))
                        have e4 : xs 4 = .agg #[.int .i64 O2.frm, .int .i64 O2.person, .int .i64 O2.dest, .int .i64 O2.cls, .int .i64 O2.after, .int .i64 O2.by_, .int .i64 O2.crowd, .int .i64 O2.pay, .slice ab O2.against.length cb, .bool O2.back, .int .i64 O2.els] := hv 4 _ (by rw [HVV.out]; rfl) (hL 4 (by decide))
                        have e5 : xs 5 = .bool true := hv 5 _ (by rw [HVV.out]; rfl) (hL 5 (by decide))
                        have e6 : xs 6 = .bool false := hv 6 _ (by rw [HVV.out]; rfl) (hL 6 (by decide))
                        simp only [putGo, Act.put, List.setIfInBounds_toArray, List.set_cons_zero, List.set_cons_succ, e0, e1, e2, e3, e4, e5, e6]
                        clear hv e0 e1 e2 e3 e4 e5 e6
                        have HBE := Lib.hid (HBR'.out.trans (hb.mono HBR'.out.size))
                        clear hb hL
                        obtain ⟨wE, rfl⟩ : ∃ W, W = w' := ⟨_, rfl⟩
                        go_wp2
                        go_roundw
                        case rel => exact ⟨k + 1, by omega, by go_num, HBE.out⟩
                        case measure => simp [intOf]; omega
              obtain rfl : k = os.length := by omega
              go_wp2
              go_ret
              exact ⟨rfl, HBA2.out.trans (hb.mono HBA2.out.size)⟩
end Go.Proofs.Ytmfbabmejbppjaa
