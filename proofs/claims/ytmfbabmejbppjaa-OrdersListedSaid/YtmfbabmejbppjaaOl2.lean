/-
  Layer 18: the walk of frankinglaw18.OrdersSpec.
-/
import Derived.Test.YtmfbabmejbppjaaSn19
set_option linter.unusedVariables false
set_option linter.unusedSimpArgs false
namespace Go.Proofs.Ytmfbabmejbppjaa
open Go.RowKit

theorem fewN_small {n : NamesD} (h : fewN n = true) : SmallN n := by
  unfold fewN at h
  simp only [Bool.and_eq_true, decide_eq_true_eq] at h
  exact ⟨by omega, by omega, by omega, by omega⟩

set_option maxHeartbeats 16000000 in
set_option maxRecDepth 100000 in
theorem ordersSpec_any (B : Nat) (w : World) (v : NamesV) (n : NamesD) (vl : Value) (l : List WishD) (hB : B ≤ w.heap.size) (hv : IsNames B w v n) (hl : IsWishes B w vl l) :
    Calls Try.prog 3 #[v.agg, vl] w fun e w' => e = .returned (.bool true) ∧ Below w.heap.size w w' := by
  obtain ⟨vo, vp, vc, vh⟩ := v
  obtain ⟨ao, co, e, ho1, ho2, ho3⟩ := hv.o.form
  simp only at e; subst e
  obtain ⟨ap, cp, e, hp1, hp2, hp3⟩ := hv.p.form
  simp only at e; subst e
  obtain ⟨ac, cc, e, hc1, hc2, hc3⟩ := hv.c.form
  simp only at e; subst e
  obtain ⟨bh, oh, ch, ⟨ah, e, hh1, hh2, hh4⟩, hh3, hh5, hh6⟩ := id hv.h
  simp only at e; subst e
  obtain ⟨aw, cw, e, hw1, hw2, hw3⟩ := hl.form
  subst e
  have HV := Lib.hid hv
  have HL := Lib.hid hl
  obtain ⟨b0, hb0⟩ : ∃ b, w.heap.size = b := ⟨_, rfl⟩
  obtain ⟨W0, hW0⟩ : ∃ W, w.alloc (.cells #[.slice ao n.offices.length co, .slice ap n.people.length cp, .slice ac n.classes.length cc, .slice ah n.homes.length ch] 25) = W := ⟨_, rfl⟩
  have HB0 : Hid (Below w.heap.size w W0) := Lib.hid (by rw [← hW0]; exact box_below' w _)
  have HX0 : Hid (Box W0 b0 #[.slice ao n.offices.length co, .slice ap n.people.length cp, .slice ac n.classes.length cc, .slice ah n.homes.length ch]) := Lib.hid (by rw [← hW0, ← hb0]; exact Box.new _ _ _)
  have HW0 := Lib.hid hW0
  have HBZ := Lib.hid hb0
  clear hv hl hh5 hh6 hh4 hW0
  unfold NamesV.agg
  go_enter Try.func3, Try.ntmps3
  go_upto_region 1 with fail
  rw [HW0.out]
  try rw [hb0]
  clear hb0
  go_wp2_with fail
  refine (sane18_any W0).mono ?_
  rintro e W1 ⟨rfl, hb⟩
  have HB1 : Hid (Below w.heap.size w W1) := Lib.hid (HB0.out.trans (hb.mono HB0.out.size))
  have HX1 := Lib.hid (HX0.out.ext hb)
  clear hb
  have HNK : Hid (∀ W, Below W1.heap.size W1 W → W.cell? ⟨b0, 0, none⟩ = some (.slice ao n.offices.length co) ∧ W.cell? ⟨b0, 1, none⟩ = some (.slice ap n.people.length cp) ∧ W.cell? ⟨b0, 2, none⟩ = some (.slice ac n.classes.length cc) ∧ W.cell? ⟨b0, 3, none⟩ = some (.slice ah n.homes.length ch)) := Lib.hid fun W hW => by
    have hx := (HX1.out.ext hW).2
    exact ⟨hx 0, hx 1, hx 2, hx 3⟩
  have HVK : Hid (∀ W, Below W1.heap.size W1 W → IsNames W.heap.size W ⟨.slice ao n.offices.length co, .slice ap n.people.length cp, .slice ac n.classes.length cc, .slice ah n.homes.length ch⟩ n) := Lib.hid fun W hW => (HV.out.below (HB1.out.trans (hW.mono HB1.out.size)) hB).mono (by have := HB1.out.size; have := hW.size; omega)
  have HLK : Hid (∀ W, Below W1.heap.size W1 W → IsWishes W.heap.size W (.slice aw l.length cw) l) := Lib.hid fun W hW => (IsRecs.below wishK HL.out (HB1.out.trans (hW.mono HB1.out.size)) hB).mono wishK (by have := HB1.out.size; have := hW.size; omega)
  obtain ⟨x0, x1, x2, x3⟩ := HNK.out W1 (Below.refl _ _)
  go_wp2_with fail
  refine (fewnames_any W1.heap.size W1 ⟨_, _, _, _⟩ n (HVK.out W1 (Below.refl _ _))).mono ?_
  rintro e W2 ⟨rfl, hb⟩
  have HB12 : Hid (Below W1.heap.size W1 W2) := Lib.hid hb
  clear hb x0 x1 x2 x3
  cases hfn : fewN n with
  | false =>
    have HFN := Lib.hid hfn
    clear hfn
    go_wp2
    go_ret
    exact ⟨rfl, HB1.out.trans (HB12.out.mono HB1.out.size)⟩
  | true =>
    have HFN := Lib.hid hfn
    clear hfn
    go_wp2_with fail
    refine (few_any W2.heap.size W2 _ l (HLK.out W2 HB12.out)).mono ?_
    rintro e w3 ⟨rfl, hw⟩
    rw [hw]
    clear hw
    cases hfl : fewL l with
    | false =>
      clear hfl
      go_wp2
      go_ret
      exact ⟨rfl, HB1.out.trans (HB12.out.mono HB1.out.size)⟩
    | true =>
      obtain ⟨hl70, hag0⟩ := fewL_of hfl
      have HAG : Hid (∀ k, k < l.length → (wishAt l k).against.length ≤ 1000000) := Lib.hid fun k hk => by have := hag0 k hk; omega
      have HAG40 := Lib.hid hag0
      have HSN : Hid (SmallN n) := Lib.hid (fewN_small HFN.out)
      have HL70 := Lib.hid hl70
      clear hfl hag0 hl70
      obtain ⟨E, hE⟩ : ∃ E, resE n l = E := ⟨_, rfl⟩
      obtain ⟨os, hos⟩ : ∃ os, resL n l = os := ⟨_, rfl⟩
      obtain ⟨C, hC⟩ : ∃ C, checkN n = C := ⟨_, rfl⟩
      have HC := Lib.hid hC
      obtain ⟨x0, x1, x2, x3⟩ := HNK.out W2 HB12.out
      have HR1 := Lib.hid (res_law W1 W2 _ n _ l E os HB12.out (HVK.out W2 HB12.out) HSN.out (HLK.out W2 HB12.out) HAG.out hE hos)
      have HR2 : Hid (∀ W, Below W1.heap.size W1 W → Calls Try.prog 13 #[.agg #[.slice ao n.offices.length co, .slice ap n.people.length cp, .slice ac n.classes.length cc, .slice ah n.homes.length ch], .slice aw l.length cw] W fun e w' => ∃ a c, e = .returned (.tuple #[.slice a os.length c, .int .i64 E]) ∧ IsOrders w'.heap.size w' (.slice a os.length c) os ∧ Below W.heap.size W w') := Lib.hid fun W hW => by
        refine (rresolve_any W.heap.size W _ n _ l (Nat.le_refl _) (HVK.out W hW) (HLK.out W hW) HAG.out).mono ?_
        rintro e w' ⟨vr, rfl, ho, hb'⟩
        rw [hos] at ho
        obtain ⟨a, c, rfl⟩ := ho.form
        exact ⟨a, c, by rw [hE], ownOrds_is ho, hb'⟩
      clear hE hos hC
      go_wp2_with fail
      refine HR1.out.mono ?_
      rintro e w5 ⟨ax, cx, rfl, ho, hb⟩
      have HB5 : Hid (Below W1.heap.size W1 w5) := Lib.hid hb
      have HO5 := Lib.hid ho
      clear hb ho x0 x1 x2 x3
      obtain ⟨x0, x1, x2, x3⟩ := HNK.out w5 HB5.out
      go_wp2_with fail
      refine (HR2.out w5 HB5.out).mono ?_
      rintro e w6 ⟨ay, cy, rfl, ho, hb⟩
      have HB6 : Hid (Below W1.heap.size W1 w6) := Lib.hid (HB5.out.trans (hb.mono HB5.out.size))
      have HO6 := Lib.hid ho
      have HO56 := Lib.hid ((IsRecs.below orderK HO5.out hb (Nat.le_refl _)).mono orderK hb.size)
      clear hb ho x0 x1 x2 x3
      go_upto_region 7 with fail
      obtain ⟨V, hV⟩ : ∃ V : List (Option Value), V = [some (.agg #[.slice ao n.offices.length co, .slice ap n.people.length cp, .slice ac n.classes.length cc, .slice ah n.homes.length ch]), some (.int .i64 C), some (.agg #[.slice ao n.offices.length co, .slice ap n.people.length cp, .slice ac n.classes.length cc, .slice ah n.homes.length ch]), some (.int .i64 C), some (.bool true), some (.bool true), some (.slice ax os.length cx), some (.slice ay os.length cy), some (.bool true), some (.bool true), some (.bool true), some (.int .i64 E), some (.int .i64 E), some (.bool true), some (.bool true), some (.bool true)] := ⟨_, rfl⟩
      have HVV := Lib.hid hV
      clear hV
      refine wp_region_V [some 31, some 32, some 33, some 34, some 35, some 36, some 37, some 38, some 39, some 40, some 41, some 42, some 43, some 44, some 45, some 4] (fun L w' xs => ValsAt V L xs ∧ (Below w6.heap.size w6 w')) (by kernel_rfl) (by kernel_rfl) (by rfl) (by rfl) (by rfl) ?_ ?_ ?_
      focus
        exact fun xs => ⟨ValsAt.none _ _, (Below.refl _ _).drew⟩
      focus
        refine ⟨?_, ?_, ?_, ?_, ?_, ?_, ?_, ?_, ?_, ?_, ?_, ?_, ?_, ?_, ?_, ?_, trivial⟩
        all_goals
          intro L a' w' xs hi hd hf hJ K hK
          obtain ⟨hv, hb⟩ := hJ
          have HF := Lib.hid hf
          have HVA := Lib.hid hv
          have HLI := Lib.hid hi
          clear hf hv hi
        focus
          clear hd
          obtain ⟨ρ, hρ⟩ : ∃ ρ, a'.eval = ρ := ⟨_, rfl⟩
          have hcst : ∀ v, ρ (.const v) = v := fun v => (congrFun hρ (.const v)).symm
          have l2 : ρ (.tmp 2) = .pointer (some ⟨b0, 0, none⟩) := (congrFun hρ (.tmp 2)).symm.trans (HF.out.lo 2 rfl)
          obtain ⟨x0, x1, x2, x3⟩ := HNK.out _ (HB6.out.trans (hb.mono HB6.out.size))
          rw [if_pos (by simp [Region.wanted])]
          unfold Oper.wp
          rw [hρ]
          clear hρ
          go_simp
          exact hK.out _ _ ⟨HVA.out.set (i := 0) (by rw [HVV.out]; rfl), hb⟩
        focus
          obtain ⟨d0, _⟩ := hd
          obtain ⟨ρ, hρ⟩ : ∃ ρ, a'.eval = ρ := ⟨_, rfl⟩
          have hcst : ∀ v, ρ (.const v) = v := fun v => (congrFun hρ (.const v)).symm
          have hfun : ∀ k, ρ (.func k) = .func (.func k) #[] #[] := fun k => (congrFun hρ (.func k)).symm
          have v0 : ρ (.tmp 31) = .agg #[.slice ao n.offices.length co, .slice ap n.people.length cp, .slice ac n.classes.length cc, .slice ah n.homes.length ch] := (congrFun hρ (.tmp 31)).symm.trans ((HF.out.ev 0 rfl d0).trans (HVA.out 0 _ (by rw [HVV.out]; rfl) d0))
          rw [if_pos (by simp [Region.wanted])]
          unfold Oper.wp
          rw [hρ]
          clear hρ
          go_simp
          go_at_call 14
          refine (check_any w'.heap.size w' ⟨_, _, _, _⟩ n (Nat.le_refl _) (HVK.out _ (HB6.out.trans (hb.mono HB6.out.size))) HSN.out).mono ?_
          rintro e w7 ⟨rfl, hb7⟩
          rw [HC.out]
          exact hK.out _ _ ⟨HVA.out.set (i := 1) (by rw [HVV.out]; rfl), hb.trans (hb7.mono hb.size)⟩
        focus
          clear hd
          obtain ⟨ρ, hρ⟩ : ∃ ρ, a'.eval = ρ := ⟨_, rfl⟩
          have hcst : ∀ v, ρ (.const v) = v := fun v => (congrFun hρ (.const v)).symm
          have l2 : ρ (.tmp 2) = .pointer (some ⟨b0, 0, none⟩) := (congrFun hρ (.tmp 2)).symm.trans (HF.out.lo 2 rfl)
          obtain ⟨x0, x1, x2, x3⟩ := HNK.out _ (HB6.out.trans (hb.mono HB6.out.size))
          rw [if_pos (by simp [Region.wanted])]
          unfold Oper.wp
          rw [hρ]
          clear hρ
          go_simp
          exact hK.out _ _ ⟨HVA.out.set (i := 2) (by rw [HVV.out]; rfl), hb⟩
        focus
          obtain ⟨d2, d1, _⟩ := hd
          obtain ⟨ρ, hρ⟩ : ∃ ρ, a'.eval = ρ := ⟨_, rfl⟩
          have hcst : ∀ v, ρ (.const v) = v := fun v => (congrFun hρ (.const v)).symm
          have hfun : ∀ k, ρ (.func k) = .func (.func k) #[] #[] := fun k => (congrFun hρ (.func k)).symm
          have v2 : ρ (.tmp 33) = .agg #[.slice ao n.offices.length co, .slice ap n.people.length cp, .slice ac n.classes.length cc, .slice ah n.homes.length ch] := (congrFun hρ (.tmp 33)).symm.trans ((HF.out.ev 2 rfl d2).trans (HVA.out 2 _ (by rw [HVV.out]; rfl) d2))
          rw [if_pos (by simp [Region.wanted])]
          unfold Oper.wp
          rw [hρ]
          clear hρ
          go_simp
          go_at_call 15
          refine (rcheck_any w'.heap.size w' ⟨_, _, _, _⟩ n (Nat.le_refl _) (HVK.out _ (HB6.out.trans (hb.mono HB6.out.size)))).mono ?_
          rintro e w7 ⟨rfl, hb7⟩
          rw [HC.out]
          exact hK.out _ _ ⟨HVA.out.set (i := 3) (by rw [HVV.out]; rfl), hb.trans (hb7.mono hb.size)⟩
        focus
          obtain ⟨d1, d3, _⟩ := hd
          obtain ⟨ρ, hρ⟩ : ∃ ρ, a'.eval = ρ := ⟨_, rfl⟩
          have hcst : ∀ v, ρ (.const v) = v := fun v => (congrFun hρ (.const v)).symm
          have v1 : ρ (.tmp 32) = .int .i64 C := (congrFun hρ (.tmp 32)).symm.trans ((HF.out.ev 1 rfl d1).trans (HVA.out 1 _ (by rw [HVV.out]; rfl) d1))
          have v3 : ρ (.tmp 34) = .int .i64 C := (congrFun hρ (.tmp 34)).symm.trans ((HF.out.ev 3 rfl d3).trans (HVA.out 3 _ (by rw [HVV.out]; rfl) d3))
          rw [if_pos (by simp [Region.wanted])]
          unfold Oper.wp
          rw [hρ]
          clear hρ
          go_simp
          exact hK.out _ _ ⟨HVA.out.set (i := 4) (by rw [HVV.out]; rfl), hb⟩
        focus
          obtain ⟨d4, d3, _⟩ := hd
          obtain ⟨ρ, hρ⟩ : ∃ ρ, a'.eval = ρ := ⟨_, rfl⟩
          have hcst : ∀ v, ρ (.const v) = v := fun v => (congrFun hρ (.const v)).symm
          have v4 : ρ (.tmp 35) = .bool true := (congrFun hρ (.tmp 35)).symm.trans ((HF.out.ev 4 rfl d4).trans (HVA.out 4 _ (by rw [HVV.out]; rfl) d4))
          rw [if_pos (by simp [Region.wanted])]
          unfold Oper.wp
          rw [hρ]
          clear hρ
          go_simp
          exact hK.out _ _ ⟨HVA.out.set (i := 5) (by rw [HVV.out]; rfl), hb⟩
        focus
          obtain ⟨d5, _⟩ := hd
          obtain ⟨ρ, hρ⟩ : ∃ ρ, a'.eval = ρ := ⟨_, rfl⟩
          have hcst : ∀ v, ρ (.const v) = v := fun v => (congrFun hρ (.const v)).symm
          have l5 : ρ (.tmp 5) = .slice ax os.length cx := (congrFun hρ (.tmp 5)).symm.trans (HF.out.lo 5 rfl)
          rw [if_pos (wanted_yes (d := 36) rfl rfl ((HF.out.ev 5 rfl d5).trans (HVA.out 5 _ (by rw [HVV.out]; rfl) d5)))]
          unfold Oper.wp
          rw [hρ]
          clear hρ
          go_simp
          exact hK.out _ _ ⟨HVA.out.set (i := 6) (by rw [HVV.out]; rfl), hb⟩
        focus
          obtain ⟨d5, _⟩ := hd
          obtain ⟨ρ, hρ⟩ : ∃ ρ, a'.eval = ρ := ⟨_, rfl⟩
          have hcst : ∀ v, ρ (.const v) = v := fun v => (congrFun hρ (.const v)).symm
          have l7 : ρ (.tmp 7) = .slice ay os.length cy := (congrFun hρ (.tmp 7)).symm.trans (HF.out.lo 7 rfl)
          rw [if_pos (wanted_yes (d := 36) rfl rfl ((HF.out.ev 5 rfl d5).trans (HVA.out 5 _ (by rw [HVV.out]; rfl) d5)))]
          unfold Oper.wp
          rw [hρ]
          clear hρ
          go_simp
          exact hK.out _ _ ⟨HVA.out.set (i := 7) (by rw [HVV.out]; rfl), hb⟩
        focus
          obtain ⟨d6, d7, d5, _, _⟩ := hd
          obtain ⟨ρ, hρ⟩ : ∃ ρ, a'.eval = ρ := ⟨_, rfl⟩
          have hcst : ∀ v, ρ (.const v) = v := fun v => (congrFun hρ (.const v)).symm
          have hfun : ∀ k, ρ (.func k) = .func (.func k) #[] #[] := fun k => (congrFun hρ (.func k)).symm
          have v6 : ρ (.tmp 37) = .slice ax os.length cx := (congrFun hρ (.tmp 37)).symm.trans ((HF.out.ev 6 rfl d6).trans (HVA.out 6 _ (by rw [HVV.out]; rfl) d6))
          have v7 : ρ (.tmp 38) = .slice ay os.length cy := (congrFun hρ (.tmp 38)).symm.trans ((HF.out.ev 7 rfl d7).trans (HVA.out 7 _ (by rw [HVV.out]; rfl) d7))
          rw [if_pos (wanted_yes (d := 36) rfl rfl ((HF.out.ev 5 rfl d5).trans (HVA.out 5 _ (by rw [HVV.out]; rfl) d5)))]
          unfold Oper.wp
          rw [hρ]
          clear hρ
          go_simp
          go_at_call 16
          refine (rsame_any w6.heap.size w' _ _ os os hb.size (IsRecs.below orderK HO56.out hb (Nat.le_refl _)) (IsRecs.below orderK HO6.out hb (Nat.le_refl _))).mono ?_
          rintro e w7 ⟨rfl, hb7⟩
          rw [show sameOs os os = true from by unfold sameOs; simp]
          exact hK.out _ _ ⟨HVA.out.set (i := 8) (by rw [HVV.out]; rfl), hb.trans (hb7.mono hb.size)⟩
        focus
          obtain ⟨d5, d8, _⟩ := hd
          obtain ⟨ρ, hρ⟩ : ∃ ρ, a'.eval = ρ := ⟨_, rfl⟩
          have hcst : ∀ v, ρ (.const v) = v := fun v => (congrFun hρ (.const v)).symm
          have v5 : ρ (.tmp 36) = .bool true := (congrFun hρ (.tmp 36)).symm.trans ((HF.out.ev 5 rfl d5).trans (HVA.out 5 _ (by rw [HVV.out]; rfl) d5))
          have v8 : ρ (.tmp 39) = .bool true := (congrFun hρ (.tmp 39)).symm.trans ((HF.out.ev 8 rfl d8).trans (HVA.out 8 _ (by rw [HVV.out]; rfl) d8))
          rw [if_pos (by simp [Region.wanted])]
          unfold Oper.wp
          rw [hρ]
          clear hρ
          go_simp
          exact hK.out _ _ ⟨HVA.out.set (i := 9) (by rw [HVV.out]; rfl), hb⟩
        focus
          obtain ⟨d9, d8, _⟩ := hd
          obtain ⟨ρ, hρ⟩ : ∃ ρ, a'.eval = ρ := ⟨_, rfl⟩
          have hcst : ∀ v, ρ (.const v) = v := fun v => (congrFun hρ (.const v)).symm
          have v9 : ρ (.tmp 40) = .bool true := (congrFun hρ (.tmp 40)).symm.trans ((HF.out.ev 9 rfl d9).trans (HVA.out 9 _ (by rw [HVV.out]; rfl) d9))
          rw [if_pos (by simp [Region.wanted])]
          unfold Oper.wp
          rw [hρ]
          clear hρ
          go_simp
          exact hK.out _ _ ⟨HVA.out.set (i := 10) (by rw [HVV.out]; rfl), hb⟩
        focus
          obtain ⟨d10, _⟩ := hd
          obtain ⟨ρ, hρ⟩ : ∃ ρ, a'.eval = ρ := ⟨_, rfl⟩
          have hcst : ∀ v, ρ (.const v) = v := fun v => (congrFun hρ (.const v)).symm
          have l6 : ρ (.tmp 6) = .int .i64 E := (congrFun hρ (.tmp 6)).symm.trans (HF.out.lo 6 rfl)
          rw [if_pos (wanted_yes (d := 41) rfl rfl ((HF.out.ev 10 rfl d10).trans (HVA.out 10 _ (by rw [HVV.out]; rfl) d10)))]
          unfold Oper.wp
          rw [hρ]
          clear hρ
          go_simp
          exact hK.out _ _ ⟨HVA.out.set (i := 11) (by rw [HVV.out]; rfl), hb⟩
        focus
          obtain ⟨d10, _⟩ := hd
          obtain ⟨ρ, hρ⟩ : ∃ ρ, a'.eval = ρ := ⟨_, rfl⟩
          have hcst : ∀ v, ρ (.const v) = v := fun v => (congrFun hρ (.const v)).symm
          have l8 : ρ (.tmp 8) = .int .i64 E := (congrFun hρ (.tmp 8)).symm.trans (HF.out.lo 8 rfl)
          rw [if_pos (wanted_yes (d := 41) rfl rfl ((HF.out.ev 10 rfl d10).trans (HVA.out 10 _ (by rw [HVV.out]; rfl) d10)))]
          unfold Oper.wp
          rw [hρ]
          clear hρ
          go_simp
          exact hK.out _ _ ⟨HVA.out.set (i := 12) (by rw [HVV.out]; rfl), hb⟩
        focus
          obtain ⟨d11, d12, d10, _⟩ := hd
          obtain ⟨ρ, hρ⟩ : ∃ ρ, a'.eval = ρ := ⟨_, rfl⟩
          have hcst : ∀ v, ρ (.const v) = v := fun v => (congrFun hρ (.const v)).symm
          have v11 : ρ (.tmp 42) = .int .i64 E := (congrFun hρ (.tmp 42)).symm.trans ((HF.out.ev 11 rfl d11).trans (HVA.out 11 _ (by rw [HVV.out]; rfl) d11))
          have v12 : ρ (.tmp 43) = .int .i64 E := (congrFun hρ (.tmp 43)).symm.trans ((HF.out.ev 12 rfl d12).trans (HVA.out 12 _ (by rw [HVV.out]; rfl) d12))
          rw [if_pos (wanted_yes (d := 41) rfl rfl ((HF.out.ev 10 rfl d10).trans (HVA.out 10 _ (by rw [HVV.out]; rfl) d10)))]
          unfold Oper.wp
          rw [hρ]
          clear hρ
          go_simp
          exact hK.out _ _ ⟨HVA.out.set (i := 13) (by rw [HVV.out]; rfl), hb⟩
        focus
          obtain ⟨d10, d13, _⟩ := hd
          obtain ⟨ρ, hρ⟩ : ∃ ρ, a'.eval = ρ := ⟨_, rfl⟩
          have hcst : ∀ v, ρ (.const v) = v := fun v => (congrFun hρ (.const v)).symm
          have v10 : ρ (.tmp 41) = .bool true := (congrFun hρ (.tmp 41)).symm.trans ((HF.out.ev 10 rfl d10).trans (HVA.out 10 _ (by rw [HVV.out]; rfl) d10))
          have v13 : ρ (.tmp 44) = .bool true := (congrFun hρ (.tmp 44)).symm.trans ((HF.out.ev 13 rfl d13).trans (HVA.out 13 _ (by rw [HVV.out]; rfl) d13))
          rw [if_pos (by simp [Region.wanted])]
          unfold Oper.wp
          rw [hρ]
          clear hρ
          go_simp
          exact hK.out _ _ ⟨HVA.out.set (i := 14) (by rw [HVV.out]; rfl), hb⟩
        focus
          obtain ⟨d14, d10, d0, d1, d2, d3, d4, d5, d6, d7, d8, d9, _, d11, d12, d13, _, _⟩ := hd
          obtain ⟨ρ, hρ⟩ : ∃ ρ, a'.eval = ρ := ⟨_, rfl⟩
          have hcst : ∀ v, ρ (.const v) = v := fun v => (congrFun hρ (.const v)).symm
          have v14 : ρ (.tmp 45) = .bool true := (congrFun hρ (.tmp 45)).symm.trans ((HF.out.ev 14 rfl d14).trans (HVA.out 14 _ (by rw [HVV.out]; rfl) d14))
          rw [if_pos (by simp [Region.wanted])]
          unfold Oper.wp
          rw [hρ]
          clear hρ
          go_simp
          exact hK.out _ _ ⟨HVA.out.set (i := 15) (by rw [HVV.out]; rfl), hb⟩
      focus
        intro L w' xs hL hJ
        obtain ⟨hv, hb⟩ := hJ
        have e0 : xs 0 = .agg #[.slice ao n.offices.length co, .slice ap n.people.length cp, .slice ac n.classes.length cc, .slice ah n.homes.length ch] := hv 0 _ (by rw [HVV.out]; rfl) (hL 0 (by decide))
        have e1 : xs 1 = .int .i64 C := hv 1 _ (by rw [HVV.out]; rfl) (hL 1 (by decide))
        have e2 : xs 2 = .agg #[.slice ao n.offices.length co, .slice ap n.people.length cp, .slice ac n.classes.length cc, .slice ah n.homes.length ch] := hv 2 _ (by rw [HVV.out]; rfl) (hL 2 (by decide))
        have e3 : xs 3 = .int .i64 C := hv 3 _ (by rw [HVV.out]; rfl) (hL 3 (by decide))
        have e4 : xs 4 = .bool true := hv 4 _ (by rw [HVV.out]; rfl) (hL 4 (by decide))
        have e5 : xs 5 = .bool true := hv 5 _ (by rw [HVV.out]; rfl) (hL 5 (by decide))
        have e6 : xs 6 = .slice ax os.length cx := hv 6 _ (by rw [HVV.out]; rfl) (hL 6 (by decide))
        have e7 : xs 7 = .slice ay os.length cy := hv 7 _ (by rw [HVV.out]; rfl) (hL 7 (by decide))
        have e8 : xs 8 = .bool true := hv 8 _ (by rw [HVV.out]; rfl) (hL 8 (by decide))
        have e9 : xs 9 = .bool true := hv 9 _ (by rw [HVV.out]; rfl) (hL 9 (by decide))
        have e10 : xs 10 = .bool true := hv 10 _ (by rw [HVV.out]; rfl) (hL 10 (by decide))
        have e11 : xs 11 = .int .i64 E := hv 11 _ (by rw [HVV.out]; rfl) (hL 11 (by decide))
        have e12 : xs 12 = .int .i64 E := hv 12 _ (by rw [HVV.out]; rfl) (hL 12 (by decide))
        have e13 : xs 13 = .bool true := hv 13 _ (by rw [HVV.out]; rfl) (hL 13 (by decide))
        have e14 : xs 14 = .bool true := hv 14 _ (by rw [HVV.out]; rfl) (hL 14 (by decide))
        have e15 : xs 15 = .bool true := hv 15 _ (by rw [HVV.out]; rfl) (hL 15 (by decide))
        simp only [putGo, Act.put, List.setIfInBounds_toArray, List.set_cons_zero, List.set_cons_succ, e0, e1, e2, e3, e4, e5, e6, e7, e8, e9, e10, e11, e12, e13, e14, e15]
        clear hv e0 e1 e2 e3 e4 e5 e6 e7 e8 e9 e10 e11 e12 e13 e14 e15
        have HBE : Hid (Below w.heap.size w w') := Lib.hid ((HB1.out.trans (HB6.out.mono HB1.out.size)).trans (hb.mono (by have := HB1.out.size; have := HB6.out.size; omega)))
        go_wp2
        go_ret
        exact ⟨rfl, HBE.out⟩
end Go.Proofs.Ytmfbabmejbppjaa
