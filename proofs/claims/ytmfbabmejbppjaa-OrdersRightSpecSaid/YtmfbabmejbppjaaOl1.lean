/-
  Layer 18: the walk of frankinglaw18.OrdersRightSpec (printed by tools/genol1.py).
-/
import Derived.Test.YtmfbabmejbppjaaSn19
set_option linter.unusedVariables false
set_option linter.unusedSimpArgs false
namespace Go.Proofs.Ytmfbabmejbppjaa
open Go.RowKit

set_option maxHeartbeats 8000000 in
set_option maxRecDepth 100000 in
theorem ordersRightSpec_any (B : Nat) (w : World) (va : Value) (o : OrderD) (offs peo cla : Int) (hB : B ≤ w.heap.size) (hv : IsInts B w va o.against) (hok : okO o) :
    Calls Try.prog 4 #[orderV va o, .int .i64 offs, .int .i64 peo, .int .i64 cla] w fun e w' => e = .returned (.bool true) ∧ Below w.heap.size w w' := by
  obtain ⟨bh, oh, ch, ⟨ah, e, hh1, hh2, hh4⟩, hh3, hh5, hh6⟩ := id hv
  subst e
  obtain ⟨b0, hb0⟩ : ∃ b, w.heap.size = b := ⟨_, rfl⟩
  obtain ⟨W0, hW0⟩ : ∃ W, w.alloc (.cells (orderC (.slice ah o.against.length ch) o).toArray 38) = W := ⟨_, rfl⟩
  have HB0 : Hid (Below w.heap.size w W0) := Lib.hid (by rw [← hW0]; exact box_below' w _)
  have HX0 : Hid (Box W0 b0 (orderC (.slice ah o.against.length ch) o).toArray) := Lib.hid (by rw [← hW0, ← hb0]; exact Box.new _ _ _)
  have HV := Lib.hid hv
  have HOK := Lib.hid hok
  have HW0 : Hid (w.alloc (.cells #[.int .i64 o.frm, .int .i64 o.person, .int .i64 o.dest, .int .i64 o.cls, .int .i64 o.after, .int .i64 o.by_, .int .i64 o.crowd, .int .i64 o.pay, .slice ah o.against.length ch, .bool o.back, .int .i64 o.els] 38) = W0) := Lib.hid hW0
  clear hv hok hh5 hh6 hh4 hW0
  unfold orderV orderC
  go_enter Try.func4, Try.ntmps4
  go_upto_region 1 with fail
  rw [HW0.out]
  try rw [hb0]
  go_wp2_with fail
  refine (sane18_any W0).mono ?_
  rintro e W1 ⟨rfl, hb⟩
  have HB1 : Hid (Below w.heap.size w W1) := Lib.hid (HB0.out.trans (hb.mono HB0.out.size))
  have HX1 := Lib.hid (HX0.out.ext hb)
  clear hb hb0
  have HKL : Hid (∀ W, Below W1.heap.size W1 W → W.cell? ⟨b0, 0, none⟩ = some (.int .i64 o.frm) ∧ W.cell? ⟨b0, 1, none⟩ = some (.int .i64 o.person) ∧ W.cell? ⟨b0, 2, none⟩ = some (.int .i64 o.dest) ∧ W.cell? ⟨b0, 3, none⟩ = some (.int .i64 o.cls) ∧ W.cell? ⟨b0, 4, none⟩ = some (.int .i64 o.after) ∧ W.cell? ⟨b0, 5, none⟩ = some (.int .i64 o.by_) ∧ W.cell? ⟨b0, 6, none⟩ = some (.int .i64 o.crowd) ∧ W.cell? ⟨b0, 7, none⟩ = some (.int .i64 o.pay) ∧ W.cell? ⟨b0, 8, none⟩ = some (.slice ah o.against.length ch) ∧ W.cell? ⟨b0, 9, none⟩ = some (.bool o.back) ∧ W.cell? ⟨b0, 10, none⟩ = some (.int .i64 o.els)) := Lib.hid fun W hW => by
    have hx := (HX1.out.ext hW).2
    exact ⟨hx 0, hx 1, hx 2, hx 3, hx 4, hx 5, hx 6, hx 7, hx 8, hx 9, hx 10⟩
  by_cases hl : o.against.length ≤ 100
  · obtain ⟨r, hr⟩ : ∃ r, rightB o offs peo cla = r := ⟨_, rfl⟩
    have HR1 : Hid (∀ W, Below W1.heap.size W1 W → Calls Try.prog 17 #[.agg #[.int .i64 o.frm, .int .i64 o.person, .int .i64 o.dest, .int .i64 o.cls, .int .i64 o.after, .int .i64 o.by_, .int .i64 o.crowd, .int .i64 o.pay, .slice ah o.against.length ch, .bool o.back, .int .i64 o.els], .int .i64 offs, .int .i64 peo, .int .i64 cla] W fun e w' => e = .returned (.bool r) ∧ Below W.heap.size W w') := Lib.hid fun W hW => by
      have h := right_any B W _ o offs peo cla (by have := HB1.out.size; have := hW.size; omega) (HV.out.below (HB1.out.trans (hW.mono HB1.out.size)) hB) HOK.out
      rwa [hr] at h
    have HR2 : Hid (∀ W, Below W1.heap.size W1 W → Calls Try.prog 18 #[.agg #[.int .i64 o.frm, .int .i64 o.person, .int .i64 o.dest, .int .i64 o.cls, .int .i64 o.after, .int .i64 o.by_, .int .i64 o.crowd, .int .i64 o.pay, .slice ah o.against.length ch, .bool o.back, .int .i64 o.els], .int .i64 offs, .int .i64 peo, .int .i64 cla] W fun e w' => e = .returned (.bool r) ∧ Below W.heap.size W w') := Lib.hid fun W hW => by
      have h := rright_any B W _ o offs peo cla (by have := HB1.out.size; have := hW.size; omega) (HV.out.below (HB1.out.trans (hW.mono HB1.out.size)) hB) HOK.out
      rwa [hr] at h
    have hl' : (o.against.length : Int) ≤ 100 := by omega
    clear hr hl
    go_upto_region 3 with fail
    obtain ⟨V, hV⟩ : ∃ V : List (Option Value), V = [some (.pointer (some ⟨b0, 8, none⟩)), some (.slice ah o.against.length ch), some (.int .i64 (o.against.length : Int)), some (.bool false), some (.bool false), some (.agg #[.int .i64 o.frm, .int .i64 o.person, .int .i64 o.dest, .int .i64 o.cls, .int .i64 o.after, .int .i64 o.by_, .int .i64 o.crowd, .int .i64 o.pay, .slice ah o.against.length ch, .bool o.back, .int .i64 o.els]), some (.int .i64 offs), some (.int .i64 peo), some (.int .i64 cla), some (.bool r), some (.agg #[.int .i64 o.frm, .int .i64 o.person, .int .i64 o.dest, .int .i64 o.cls, .int .i64 o.after, .int .i64 o.by_, .int .i64 o.crowd, .int .i64 o.pay, .slice ah o.against.length ch, .bool o.back, .int .i64 o.els]), some (.int .i64 offs), some (.int .i64 peo), some (.int .i64 cla), some (.bool r), some (.bool true), some (.bool true), some (.bool true)] := ⟨_, rfl⟩
    have HVV := Lib.hid hV
    clear hV
    refine wp_region_V [some 11, some 12, some 13, some 14, some 15, some 16, some 17, some 18, some 19, some 20, some 21, some 22, some 23, some 24, some 25, some 26, some 27, some 8] (fun L w' xs => ValsAt V L xs ∧ (Below W1.heap.size W1 w')) (by kernel_rfl) (by kernel_rfl) (by rfl) (by rfl) (by rfl) ?_ ?_ ?_
    focus
      exact fun xs => ⟨ValsAt.none _ _, (Below.refl _ _).drew⟩
    focus
      refine ⟨?_, ?_, ?_, ?_, ?_, ?_, ?_, ?_, ?_, ?_, ?_, ?_, ?_, ?_, ?_, ?_, ?_, ?_, trivial⟩
      all_goals
        intro L a' w' xs hi hd hf hJ K hK
        obtain ⟨hv, hb⟩ := hJ
        have HF := Lib.hid hf
        have HVA := Lib.hid hv
        have HLI := Lib.hid hi
        clear hf hv hi
      focus
        clear hd
        obtain ⟨ρ, hρ⟩ : ∃ ρ, a'.eval = ρ := ⟨_, rfl⟩
        have hcst : ∀ v, ρ (.const v) = v := fun v => (congrFun hρ (.const v)).symm
        have l4 : ρ (.tmp 4) = .pointer (some ⟨b0, 0, none⟩) := (congrFun hρ (.tmp 4)).symm.trans (HF.out.lo 4 rfl)
        rw [if_pos (by simp [Region.wanted])]
        unfold Oper.wp
        rw [hρ]
        clear hρ
        go_simp
        exact hK.out _ _ ⟨HVA.out.set (i := 0) (by rw [HVV.out]; rfl), hb⟩
      focus
        obtain ⟨d0, _⟩ := hd
        obtain ⟨ρ, hρ⟩ : ∃ ρ, a'.eval = ρ := ⟨_, rfl⟩
        have hcst : ∀ v, ρ (.const v) = v := fun v => (congrFun hρ (.const v)).symm
        have v0 : ρ (.tmp 11) = .pointer (some ⟨b0, 8, none⟩) := (congrFun hρ (.tmp 11)).symm.trans ((HF.out.ev 0 rfl d0).trans (HVA.out 0 _ (by rw [HVV.out]; rfl) d0))
        obtain ⟨k0, k1, k2, k3, k4, k5, k6, k7, k8, k9, k10⟩ := HKL.out _ hb
        rw [if_pos (by simp [Region.wanted])]
        unfold Oper.wp
        rw [hρ]
        clear hρ
        go_simp
        exact hK.out _ _ ⟨HVA.out.set (i := 1) (by rw [HVV.out]; rfl), hb⟩
      focus
        obtain ⟨d1, _⟩ := hd
        obtain ⟨ρ, hρ⟩ : ∃ ρ, a'.eval = ρ := ⟨_, rfl⟩
        have hcst : ∀ v, ρ (.const v) = v := fun v => (congrFun hρ (.const v)).symm
        have v1 : ρ (.tmp 12) = .slice ah o.against.length ch := (congrFun hρ (.tmp 12)).symm.trans ((HF.out.ev 1 rfl d1).trans (HVA.out 1 _ (by rw [HVV.out]; rfl) d1))
        rw [if_pos (by simp [Region.wanted])]
        unfold Oper.wp
        rw [hρ]
        clear hρ
        go_simp
        exact hK.out _ _ ⟨HVA.out.set (i := 2) (by rw [HVV.out]; rfl), hb⟩
      focus
        obtain ⟨d2, _⟩ := hd
        obtain ⟨ρ, hρ⟩ : ∃ ρ, a'.eval = ρ := ⟨_, rfl⟩
        have hcst : ∀ v, ρ (.const v) = v := fun v => (congrFun hρ (.const v)).symm
        have v2 : ρ (.tmp 13) = .int .i64 (o.against.length : Int) := (congrFun hρ (.tmp 13)).symm.trans ((HF.out.ev 2 rfl d2).trans (HVA.out 2 _ (by rw [HVV.out]; rfl) d2))
        have hd : decide ((100 : Int) < (o.against.length : Int)) = false := decide_eq_false (by omega)
        rw [if_pos (by simp [Region.wanted])]
        unfold Oper.wp
        rw [hρ]
        clear hρ
        go_simp
        exact hK.out _ _ ⟨HVA.out.set (i := 3) (by rw [HVV.out]; rfl), hb⟩
      focus
        obtain ⟨d3, _⟩ := hd
        obtain ⟨ρ, hρ⟩ : ∃ ρ, a'.eval = ρ := ⟨_, rfl⟩
        have hcst : ∀ v, ρ (.const v) = v := fun v => (congrFun hρ (.const v)).symm
        have v3 : ρ (.tmp 14) = .bool false := (congrFun hρ (.tmp 14)).symm.trans ((HF.out.ev 3 rfl d3).trans (HVA.out 3 _ (by rw [HVV.out]; rfl) d3))
        rw [if_pos (by simp [Region.wanted])]
        unfold Oper.wp
        rw [hρ]
        clear hρ
        go_simp
        exact hK.out _ _ ⟨HVA.out.set (i := 4) (by rw [HVV.out]; rfl), hb⟩
      focus
        obtain ⟨d4, _⟩ := hd
        obtain ⟨ρ, hρ⟩ : ∃ ρ, a'.eval = ρ := ⟨_, rfl⟩
        have hcst : ∀ v, ρ (.const v) = v := fun v => (congrFun hρ (.const v)).symm
        have l4 : ρ (.tmp 4) = .pointer (some ⟨b0, 0, none⟩) := (congrFun hρ (.tmp 4)).symm.trans (HF.out.lo 4 rfl)
        obtain ⟨k0, k1, k2, k3, k4, k5, k6, k7, k8, k9, k10⟩ := HKL.out _ hb
        rw [if_pos (wanted_yes (d := 15) rfl rfl ((HF.out.ev 4 rfl d4).trans (HVA.out 4 _ (by rw [HVV.out]; rfl) d4)))]
        unfold Oper.wp
        rw [hρ]
        clear hρ
        go_simp
        exact hK.out _ _ ⟨HVA.out.set (i := 5) (by rw [HVV.out]; rfl), hb⟩
      focus
        obtain ⟨d4, _⟩ := hd
        obtain ⟨ρ, hρ⟩ : ∃ ρ, a'.eval = ρ := ⟨_, rfl⟩
        have hcst : ∀ v, ρ (.const v) = v := fun v => (congrFun hρ (.const v)).symm
        have l1 : ρ (.tmp 1) = .int .i64 offs := (congrFun hρ (.tmp 1)).symm.trans (HF.out.lo 1 rfl)
        rw [if_pos (wanted_yes (d := 15) rfl rfl ((HF.out.ev 4 rfl d4).trans (HVA.out 4 _ (by rw [HVV.out]; rfl) d4)))]
        unfold Oper.wp
        rw [hρ]
        clear hρ
        go_simp
        exact hK.out _ _ ⟨HVA.out.set (i := 6) (by rw [HVV.out]; rfl), hb⟩
      focus
        obtain ⟨d4, _⟩ := hd
        obtain ⟨ρ, hρ⟩ : ∃ ρ, a'.eval = ρ := ⟨_, rfl⟩
        have hcst : ∀ v, ρ (.const v) = v := fun v => (congrFun hρ (.const v)).symm
        have l2 : ρ (.tmp 2) = .int .i64 peo := (congrFun hρ (.tmp 2)).symm.trans (HF.out.lo 2 rfl)
        rw [if_pos (wanted_yes (d := 15) rfl rfl ((HF.out.ev 4 rfl d4).trans (HVA.out 4 _ (by rw [HVV.out]; rfl) d4)))]
        unfold Oper.wp
        rw [hρ]
        clear hρ
        go_simp
        exact hK.out _ _ ⟨HVA.out.set (i := 7) (by rw [HVV.out]; rfl), hb⟩
      focus
        obtain ⟨d4, _⟩ := hd
        obtain ⟨ρ, hρ⟩ : ∃ ρ, a'.eval = ρ := ⟨_, rfl⟩
        have hcst : ∀ v, ρ (.const v) = v := fun v => (congrFun hρ (.const v)).symm
        have l3 : ρ (.tmp 3) = .int .i64 cla := (congrFun hρ (.tmp 3)).symm.trans (HF.out.lo 3 rfl)
        rw [if_pos (wanted_yes (d := 15) rfl rfl ((HF.out.ev 4 rfl d4).trans (HVA.out 4 _ (by rw [HVV.out]; rfl) d4)))]
        unfold Oper.wp
        rw [hρ]
        clear hρ
        go_simp
        exact hK.out _ _ ⟨HVA.out.set (i := 8) (by rw [HVV.out]; rfl), hb⟩
      focus
        obtain ⟨d5, d6, d7, d8, d4, _, _⟩ := hd
        obtain ⟨ρ, hρ⟩ : ∃ ρ, a'.eval = ρ := ⟨_, rfl⟩
        have hcst : ∀ v, ρ (.const v) = v := fun v => (congrFun hρ (.const v)).symm
        have hfun : ∀ k, ρ (.func k) = .func (.func k) #[] #[] := fun k => (congrFun hρ (.func k)).symm
        have v5 : ρ (.tmp 16) = .agg #[.int .i64 o.frm, .int .i64 o.person, .int .i64 o.dest, .int .i64 o.cls, .int .i64 o.after, .int .i64 o.by_, .int .i64 o.crowd, .int .i64 o.pay, .slice ah o.against.length ch, .bool o.back, .int .i64 o.els] := (congrFun hρ (.tmp 16)).symm.trans ((HF.out.ev 5 rfl d5).trans (HVA.out 5 _ (by rw [HVV.out]; rfl) d5))
        have v6 : ρ (.tmp 17) = .int .i64 offs := (congrFun hρ (.tmp 17)).symm.trans ((HF.out.ev 6 rfl d6).trans (HVA.out 6 _ (by rw [HVV.out]; rfl) d6))
        have v7 : ρ (.tmp 18) = .int .i64 peo := (congrFun hρ (.tmp 18)).symm.trans ((HF.out.ev 7 rfl d7).trans (HVA.out 7 _ (by rw [HVV.out]; rfl) d7))
        have v8 : ρ (.tmp 19) = .int .i64 cla := (congrFun hρ (.tmp 19)).symm.trans ((HF.out.ev 8 rfl d8).trans (HVA.out 8 _ (by rw [HVV.out]; rfl) d8))
        rw [if_pos (wanted_yes (d := 15) rfl rfl ((HF.out.ev 4 rfl d4).trans (HVA.out 4 _ (by rw [HVV.out]; rfl) d4)))]
        unfold Oper.wp
        rw [hρ]
        clear hρ
        go_simp
        go_at_call 17
        refine (HR1.out _ hb).mono ?_
        rintro e w5 ⟨rfl, hb5⟩
        exact hK.out _ _ ⟨HVA.out.set (i := 9) (by rw [HVV.out]; rfl), hb.trans (hb5.mono hb.size)⟩
      focus
        obtain ⟨d4, _⟩ := hd
        obtain ⟨ρ, hρ⟩ : ∃ ρ, a'.eval = ρ := ⟨_, rfl⟩
        have hcst : ∀ v, ρ (.const v) = v := fun v => (congrFun hρ (.const v)).symm
        have l4 : ρ (.tmp 4) = .pointer (some ⟨b0, 0, none⟩) := (congrFun hρ (.tmp 4)).symm.trans (HF.out.lo 4 rfl)
        obtain ⟨k0, k1, k2, k3, k4, k5, k6, k7, k8, k9, k10⟩ := HKL.out _ hb
        rw [if_pos (wanted_yes (d := 15) rfl rfl ((HF.out.ev 4 rfl d4).trans (HVA.out 4 _ (by rw [HVV.out]; rfl) d4)))]
        unfold Oper.wp
        rw [hρ]
        clear hρ
        go_simp
        exact hK.out _ _ ⟨HVA.out.set (i := 10) (by rw [HVV.out]; rfl), hb⟩
      focus
        obtain ⟨d4, _⟩ := hd
        obtain ⟨ρ, hρ⟩ : ∃ ρ, a'.eval = ρ := ⟨_, rfl⟩
        have hcst : ∀ v, ρ (.const v) = v := fun v => (congrFun hρ (.const v)).symm
        have l1 : ρ (.tmp 1) = .int .i64 offs := (congrFun hρ (.tmp 1)).symm.trans (HF.out.lo 1 rfl)
        rw [if_pos (wanted_yes (d := 15) rfl rfl ((HF.out.ev 4 rfl d4).trans (HVA.out 4 _ (by rw [HVV.out]; rfl) d4)))]
        unfold Oper.wp
        rw [hρ]
        clear hρ
        go_simp
        exact hK.out _ _ ⟨HVA.out.set (i := 11) (by rw [HVV.out]; rfl), hb⟩
      focus
        obtain ⟨d4, _⟩ := hd
        obtain ⟨ρ, hρ⟩ : ∃ ρ, a'.eval = ρ := ⟨_, rfl⟩
        have hcst : ∀ v, ρ (.const v) = v := fun v => (congrFun hρ (.const v)).symm
        have l2 : ρ (.tmp 2) = .int .i64 peo := (congrFun hρ (.tmp 2)).symm.trans (HF.out.lo 2 rfl)
        rw [if_pos (wanted_yes (d := 15) rfl rfl ((HF.out.ev 4 rfl d4).trans (HVA.out 4 _ (by rw [HVV.out]; rfl) d4)))]
        unfold Oper.wp
        rw [hρ]
        clear hρ
        go_simp
        exact hK.out _ _ ⟨HVA.out.set (i := 12) (by rw [HVV.out]; rfl), hb⟩
      focus
        obtain ⟨d4, _⟩ := hd
        obtain ⟨ρ, hρ⟩ : ∃ ρ, a'.eval = ρ := ⟨_, rfl⟩
        have hcst : ∀ v, ρ (.const v) = v := fun v => (congrFun hρ (.const v)).symm
        have l3 : ρ (.tmp 3) = .int .i64 cla := (congrFun hρ (.tmp 3)).symm.trans (HF.out.lo 3 rfl)
        rw [if_pos (wanted_yes (d := 15) rfl rfl ((HF.out.ev 4 rfl d4).trans (HVA.out 4 _ (by rw [HVV.out]; rfl) d4)))]
        unfold Oper.wp
        rw [hρ]
        clear hρ
        go_simp
        exact hK.out _ _ ⟨HVA.out.set (i := 13) (by rw [HVV.out]; rfl), hb⟩
      focus
        obtain ⟨d10, d11, d12, d13, d9, d4, _⟩ := hd
        obtain ⟨ρ, hρ⟩ : ∃ ρ, a'.eval = ρ := ⟨_, rfl⟩
        have hcst : ∀ v, ρ (.const v) = v := fun v => (congrFun hρ (.const v)).symm
        have hfun : ∀ k, ρ (.func k) = .func (.func k) #[] #[] := fun k => (congrFun hρ (.func k)).symm
        have v10 : ρ (.tmp 21) = .agg #[.int .i64 o.frm, .int .i64 o.person, .int .i64 o.dest, .int .i64 o.cls, .int .i64 o.after, .int .i64 o.by_, .int .i64 o.crowd, .int .i64 o.pay, .slice ah o.against.length ch, .bool o.back, .int .i64 o.els] := (congrFun hρ (.tmp 21)).symm.trans ((HF.out.ev 10 rfl d10).trans (HVA.out 10 _ (by rw [HVV.out]; rfl) d10))
        have v11 : ρ (.tmp 22) = .int .i64 offs := (congrFun hρ (.tmp 22)).symm.trans ((HF.out.ev 11 rfl d11).trans (HVA.out 11 _ (by rw [HVV.out]; rfl) d11))
        have v12 : ρ (.tmp 23) = .int .i64 peo := (congrFun hρ (.tmp 23)).symm.trans ((HF.out.ev 12 rfl d12).trans (HVA.out 12 _ (by rw [HVV.out]; rfl) d12))
        have v13 : ρ (.tmp 24) = .int .i64 cla := (congrFun hρ (.tmp 24)).symm.trans ((HF.out.ev 13 rfl d13).trans (HVA.out 13 _ (by rw [HVV.out]; rfl) d13))
        rw [if_pos (wanted_yes (d := 15) rfl rfl ((HF.out.ev 4 rfl d4).trans (HVA.out 4 _ (by rw [HVV.out]; rfl) d4)))]
        unfold Oper.wp
        rw [hρ]
        clear hρ
        go_simp
        go_at_call 18
        refine (HR2.out _ hb).mono ?_
        rintro e w5 ⟨rfl, hb5⟩
        exact hK.out _ _ ⟨HVA.out.set (i := 14) (by rw [HVV.out]; rfl), hb.trans (hb5.mono hb.size)⟩
      focus
        obtain ⟨d9, d14, d4, _⟩ := hd
        obtain ⟨ρ, hρ⟩ : ∃ ρ, a'.eval = ρ := ⟨_, rfl⟩
        have hcst : ∀ v, ρ (.const v) = v := fun v => (congrFun hρ (.const v)).symm
        have v9 : ρ (.tmp 20) = .bool r := (congrFun hρ (.tmp 20)).symm.trans ((HF.out.ev 9 rfl d9).trans (HVA.out 9 _ (by rw [HVV.out]; rfl) d9))
        have v14 : ρ (.tmp 25) = .bool r := (congrFun hρ (.tmp 25)).symm.trans ((HF.out.ev 14 rfl d14).trans (HVA.out 14 _ (by rw [HVV.out]; rfl) d14))
        rw [if_pos (wanted_yes (d := 15) rfl rfl ((HF.out.ev 4 rfl d4).trans (HVA.out 4 _ (by rw [HVV.out]; rfl) d4)))]
        unfold Oper.wp
        rw [hρ]
        clear hρ
        cases r <;> go_simp <;> exact hK.out _ _ ⟨HVA.out.set (i := 15) (by rw [HVV.out]; rfl), hb⟩
      focus
        obtain ⟨d4, d15, _⟩ := hd
        obtain ⟨ρ, hρ⟩ : ∃ ρ, a'.eval = ρ := ⟨_, rfl⟩
        have hcst : ∀ v, ρ (.const v) = v := fun v => (congrFun hρ (.const v)).symm
        have v4 : ρ (.tmp 15) = .bool false := (congrFun hρ (.tmp 15)).symm.trans ((HF.out.ev 4 rfl d4).trans (HVA.out 4 _ (by rw [HVV.out]; rfl) d4))
        have v15 : ρ (.tmp 26) = .bool true := (congrFun hρ (.tmp 26)).symm.trans ((HF.out.ev 15 rfl d15).trans (HVA.out 15 _ (by rw [HVV.out]; rfl) d15))
        rw [if_pos (by simp [Region.wanted])]
        unfold Oper.wp
        rw [hρ]
        clear hρ
        go_simp
        exact hK.out _ _ ⟨HVA.out.set (i := 16) (by rw [HVV.out]; rfl), hb⟩
      focus
        obtain ⟨d16, d14, d0, d1, d2, d3, d4, d5, d6, d7, d8, d9, d10, d11, d12, d13, _, d15, _, _⟩ := hd
        obtain ⟨ρ, hρ⟩ : ∃ ρ, a'.eval = ρ := ⟨_, rfl⟩
        have hcst : ∀ v, ρ (.const v) = v := fun v => (congrFun hρ (.const v)).symm
        have v16 : ρ (.tmp 27) = .bool true := (congrFun hρ (.tmp 27)).symm.trans ((HF.out.ev 16 rfl d16).trans (HVA.out 16 _ (by rw [HVV.out]; rfl) d16))
        rw [if_pos (by simp [Region.wanted])]
        unfold Oper.wp
        rw [hρ]
        clear hρ
        go_simp
        exact hK.out _ _ ⟨HVA.out.set (i := 17) (by rw [HVV.out]; rfl), hb⟩
    focus
      intro L w' xs hL hJ
      obtain ⟨hv, hb⟩ := hJ
      have e0 : xs 0 = .pointer (some ⟨b0, 8, none⟩) := hv 0 _ (by rw [HVV.out]; rfl) (hL 0 (by decide))
      have e1 : xs 1 = .slice ah o.against.length ch := hv 1 _ (by rw [HVV.out]; rfl) (hL 1 (by decide))
      have e2 : xs 2 = .int .i64 (o.against.length : Int) := hv 2 _ (by rw [HVV.out]; rfl) (hL 2 (by decide))
      have e3 : xs 3 = .bool false := hv 3 _ (by rw [HVV.out]; rfl) (hL 3 (by decide))
      have e4 : xs 4 = .bool false := hv 4 _ (by rw [HVV.out]; rfl) (hL 4 (by decide))
      have e5 : xs 5 = .agg #[.int .i64 o.frm, .int .i64 o.person, .int .i64 o.dest, .int .i64 o.cls, .int .i64 o.after, .int .i64 o.by_, .int .i64 o.crowd, .int .i64 o.pay, .slice ah o.against.length ch, .bool o.back, .int .i64 o.els] := hv 5 _ (by rw [HVV.out]; rfl) (hL 5 (by decide))
      have e6 : xs 6 = .int .i64 offs := hv 6 _ (by rw [HVV.out]; rfl) (hL 6 (by decide))
      have e7 : xs 7 = .int .i64 peo := hv 7 _ (by rw [HVV.out]; rfl) (hL 7 (by decide))
      have e8 : xs 8 = .int .i64 cla := hv 8 _ (by rw [HVV.out]; rfl) (hL 8 (by decide))
      have e9 : xs 9 = .bool r := hv 9 _ (by rw [HVV.out]; rfl) (hL 9 (by decide))
      have e10 : xs 10 = .agg #[.int .i64 o.frm, .int .i64 o.person, .int .i64 o.dest, .int .i64 o.cls, .int .i64 o.after, .int .i64 o.by_, .int .i64 o.crowd, .int .i64 o.pay, .slice ah o.against.length ch, .bool o.back, .int .i64 o.els] := hv 10 _ (by rw [HVV.out]; rfl) (hL 10 (by decide))
      have e11 : xs 11 = .int .i64 offs := hv 11 _ (by rw [HVV.out]; rfl) (hL 11 (by decide))
      have e12 : xs 12 = .int .i64 peo := hv 12 _ (by rw [HVV.out]; rfl) (hL 12 (by decide))
      have e13 : xs 13 = .int .i64 cla := hv 13 _ (by rw [HVV.out]; rfl) (hL 13 (by decide))
      have e14 : xs 14 = .bool r := hv 14 _ (by rw [HVV.out]; rfl) (hL 14 (by decide))
      have e15 : xs 15 = .bool true := hv 15 _ (by rw [HVV.out]; rfl) (hL 15 (by decide))
      have e16 : xs 16 = .bool true := hv 16 _ (by rw [HVV.out]; rfl) (hL 16 (by decide))
      have e17 : xs 17 = .bool true := hv 17 _ (by rw [HVV.out]; rfl) (hL 17 (by decide))
      simp only [putGo, Act.put, List.setIfInBounds_toArray, List.set_cons_zero, List.set_cons_succ, e0, e1, e2, e3, e4, e5, e6, e7, e8, e9, e10, e11, e12, e13, e14, e15, e16, e17]
      clear hv e0 e1 e2 e3 e4 e5 e6 e7 e8 e9 e10 e11 e12 e13 e14 e15 e16 e17
      have HBE : Hid (Below w.heap.size w w') := Lib.hid (HB1.out.trans (hb.mono HB1.out.size))
      go_wp2
      go_ret
      exact ⟨rfl, HBE.out⟩
  · have hl' : (100 : Int) < o.against.length := by omega
    clear hl
    go_upto_region 3 with fail
    obtain ⟨V, hV⟩ : ∃ V : List (Option Value), V = [some (.pointer (some ⟨b0, 8, none⟩)), some (.slice ah o.against.length ch), some (.int .i64 (o.against.length : Int)), some (.bool true), some (.bool true), none, none, none, none, none, none, none, none, none, none, none, some (.bool true), some (.bool true)] := ⟨_, rfl⟩
    have HVV := Lib.hid hV
    clear hV
    refine wp_region_V [some 11, some 12, some 13, some 14, some 15, some 16, some 17, some 18, some 19, some 20, some 21, some 22, some 23, some 24, some 25, some 26, some 27, some 8] (fun L w' xs => ValsAt V L xs ∧ (Below W1.heap.size W1 w')) (by kernel_rfl) (by kernel_rfl) (by rfl) (by rfl) (by rfl) ?_ ?_ ?_
    focus
      exact fun xs => ⟨ValsAt.none _ _, (Below.refl _ _).drew⟩
    focus
      refine ⟨?_, ?_, ?_, ?_, ?_, ?_, ?_, ?_, ?_, ?_, ?_, ?_, ?_, ?_, ?_, ?_, ?_, ?_, trivial⟩
      all_goals
        intro L a' w' xs hi hd hf hJ K hK
        obtain ⟨hv, hb⟩ := hJ
        have HF := Lib.hid hf
        have HVA := Lib.hid hv
        have HLI := Lib.hid hi
        clear hf hv hi
      focus
        clear hd
        obtain ⟨ρ, hρ⟩ : ∃ ρ, a'.eval = ρ := ⟨_, rfl⟩
        have hcst : ∀ v, ρ (.const v) = v := fun v => (congrFun hρ (.const v)).symm
        have l4 : ρ (.tmp 4) = .pointer (some ⟨b0, 0, none⟩) := (congrFun hρ (.tmp 4)).symm.trans (HF.out.lo 4 rfl)
        rw [if_pos (by simp [Region.wanted])]
        unfold Oper.wp
        rw [hρ]
        clear hρ
        go_simp
        exact hK.out _ _ ⟨HVA.out.set (i := 0) (by rw [HVV.out]; rfl), hb⟩
      focus
        obtain ⟨d0, _⟩ := hd
        obtain ⟨ρ, hρ⟩ : ∃ ρ, a'.eval = ρ := ⟨_, rfl⟩
        have hcst : ∀ v, ρ (.const v) = v := fun v => (congrFun hρ (.const v)).symm
        have v0 : ρ (.tmp 11) = .pointer (some ⟨b0, 8, none⟩) := (congrFun hρ (.tmp 11)).symm.trans ((HF.out.ev 0 rfl d0).trans (HVA.out 0 _ (by rw [HVV.out]; rfl) d0))
        obtain ⟨k0, k1, k2, k3, k4, k5, k6, k7, k8, k9, k10⟩ := HKL.out _ hb
        rw [if_pos (by simp [Region.wanted])]
        unfold Oper.wp
        rw [hρ]
        clear hρ
        go_simp
        exact hK.out _ _ ⟨HVA.out.set (i := 1) (by rw [HVV.out]; rfl), hb⟩
      focus
        obtain ⟨d1, _⟩ := hd
        obtain ⟨ρ, hρ⟩ : ∃ ρ, a'.eval = ρ := ⟨_, rfl⟩
        have hcst : ∀ v, ρ (.const v) = v := fun v => (congrFun hρ (.const v)).symm
        have v1 : ρ (.tmp 12) = .slice ah o.against.length ch := (congrFun hρ (.tmp 12)).symm.trans ((HF.out.ev 1 rfl d1).trans (HVA.out 1 _ (by rw [HVV.out]; rfl) d1))
        rw [if_pos (by simp [Region.wanted])]
        unfold Oper.wp
        rw [hρ]
        clear hρ
        go_simp
        exact hK.out _ _ ⟨HVA.out.set (i := 2) (by rw [HVV.out]; rfl), hb⟩
      focus
        obtain ⟨d2, _⟩ := hd
        obtain ⟨ρ, hρ⟩ : ∃ ρ, a'.eval = ρ := ⟨_, rfl⟩
        have hcst : ∀ v, ρ (.const v) = v := fun v => (congrFun hρ (.const v)).symm
        have v2 : ρ (.tmp 13) = .int .i64 (o.against.length : Int) := (congrFun hρ (.tmp 13)).symm.trans ((HF.out.ev 2 rfl d2).trans (HVA.out 2 _ (by rw [HVV.out]; rfl) d2))
        have hd : decide ((100 : Int) < (o.against.length : Int)) = true := decide_eq_true (by omega)
        rw [if_pos (by simp [Region.wanted])]
        unfold Oper.wp
        rw [hρ]
        clear hρ
        go_simp
        exact hK.out _ _ ⟨HVA.out.set (i := 3) (by rw [HVV.out]; rfl), hb⟩
      focus
        obtain ⟨d3, _⟩ := hd
        obtain ⟨ρ, hρ⟩ : ∃ ρ, a'.eval = ρ := ⟨_, rfl⟩
        have hcst : ∀ v, ρ (.const v) = v := fun v => (congrFun hρ (.const v)).symm
        have v3 : ρ (.tmp 14) = .bool true := (congrFun hρ (.tmp 14)).symm.trans ((HF.out.ev 3 rfl d3).trans (HVA.out 3 _ (by rw [HVV.out]; rfl) d3))
        rw [if_pos (by simp [Region.wanted])]
        unfold Oper.wp
        rw [hρ]
        clear hρ
        go_simp
        exact hK.out _ _ ⟨HVA.out.set (i := 4) (by rw [HVV.out]; rfl), hb⟩
      focus
        obtain ⟨d4, _⟩ := hd
        obtain ⟨ρ, hρ⟩ : ∃ ρ, a'.eval = ρ := ⟨_, rfl⟩
        have hcst : ∀ v, ρ (.const v) = v := fun v => (congrFun hρ (.const v)).symm
        have l4 : ρ (.tmp 4) = .pointer (some ⟨b0, 0, none⟩) := (congrFun hρ (.tmp 4)).symm.trans (HF.out.lo 4 rfl)
        obtain ⟨k0, k1, k2, k3, k4, k5, k6, k7, k8, k9, k10⟩ := HKL.out _ hb
        rw [if_neg (wanted_no (d := 15) (b := true) rfl rfl ((HF.out.ev 4 rfl d4).trans (HVA.out 4 _ (by rw [HVV.out]; rfl) d4)) (by decide))]
        clear hρ
        exact hK.out undef _ ⟨HVA.out.free (i := 5) (by rw [HVV.out]; rfl) _, hb⟩
      focus
        obtain ⟨d4, _⟩ := hd
        obtain ⟨ρ, hρ⟩ : ∃ ρ, a'.eval = ρ := ⟨_, rfl⟩
        have hcst : ∀ v, ρ (.const v) = v := fun v => (congrFun hρ (.const v)).symm
        have l1 : ρ (.tmp 1) = .int .i64 offs := (congrFun hρ (.tmp 1)).symm.trans (HF.out.lo 1 rfl)
        rw [if_neg (wanted_no (d := 15) (b := true) rfl rfl ((HF.out.ev 4 rfl d4).trans (HVA.out 4 _ (by rw [HVV.out]; rfl) d4)) (by decide))]
        clear hρ
        exact hK.out undef _ ⟨HVA.out.free (i := 6) (by rw [HVV.out]; rfl) _, hb⟩
      focus
        obtain ⟨d4, _⟩ := hd
        obtain ⟨ρ, hρ⟩ : ∃ ρ, a'.eval = ρ := ⟨_, rfl⟩
        have hcst : ∀ v, ρ (.const v) = v := fun v => (congrFun hρ (.const v)).symm
        have l2 : ρ (.tmp 2) = .int .i64 peo := (congrFun hρ (.tmp 2)).symm.trans (HF.out.lo 2 rfl)
        rw [if_neg (wanted_no (d := 15) (b := true) rfl rfl ((HF.out.ev 4 rfl d4).trans (HVA.out 4 _ (by rw [HVV.out]; rfl) d4)) (by decide))]
        clear hρ
        exact hK.out undef _ ⟨HVA.out.free (i := 7) (by rw [HVV.out]; rfl) _, hb⟩
      focus
        obtain ⟨d4, _⟩ := hd
        obtain ⟨ρ, hρ⟩ : ∃ ρ, a'.eval = ρ := ⟨_, rfl⟩
        have hcst : ∀ v, ρ (.const v) = v := fun v => (congrFun hρ (.const v)).symm
        have l3 : ρ (.tmp 3) = .int .i64 cla := (congrFun hρ (.tmp 3)).symm.trans (HF.out.lo 3 rfl)
        rw [if_neg (wanted_no (d := 15) (b := true) rfl rfl ((HF.out.ev 4 rfl d4).trans (HVA.out 4 _ (by rw [HVV.out]; rfl) d4)) (by decide))]
        clear hρ
        exact hK.out undef _ ⟨HVA.out.free (i := 8) (by rw [HVV.out]; rfl) _, hb⟩
      focus
        obtain ⟨d5, d6, d7, d8, d4, _, _⟩ := hd
        obtain ⟨ρ, hρ⟩ : ∃ ρ, a'.eval = ρ := ⟨_, rfl⟩
        have hcst : ∀ v, ρ (.const v) = v := fun v => (congrFun hρ (.const v)).symm
        have hfun : ∀ k, ρ (.func k) = .func (.func k) #[] #[] := fun k => (congrFun hρ (.func k)).symm
        have v5 : ρ (.tmp 16) = xs 5 := (congrFun hρ (.tmp 16)).symm.trans (HF.out.ev 5 rfl d5)
        have v6 : ρ (.tmp 17) = xs 6 := (congrFun hρ (.tmp 17)).symm.trans (HF.out.ev 6 rfl d6)
        have v7 : ρ (.tmp 18) = xs 7 := (congrFun hρ (.tmp 18)).symm.trans (HF.out.ev 7 rfl d7)
        have v8 : ρ (.tmp 19) = xs 8 := (congrFun hρ (.tmp 19)).symm.trans (HF.out.ev 8 rfl d8)
        rw [if_neg (wanted_no (d := 15) (b := true) rfl rfl ((HF.out.ev 4 rfl d4).trans (HVA.out 4 _ (by rw [HVV.out]; rfl) d4)) (by decide))]
        clear hρ
        exact hK.out undef _ ⟨HVA.out.free (i := 9) (by rw [HVV.out]; rfl) _, hb⟩
      focus
        obtain ⟨d4, _⟩ := hd
        obtain ⟨ρ, hρ⟩ : ∃ ρ, a'.eval = ρ := ⟨_, rfl⟩
        have hcst : ∀ v, ρ (.const v) = v := fun v => (congrFun hρ (.const v)).symm
        have l4 : ρ (.tmp 4) = .pointer (some ⟨b0, 0, none⟩) := (congrFun hρ (.tmp 4)).symm.trans (HF.out.lo 4 rfl)
        obtain ⟨k0, k1, k2, k3, k4, k5, k6, k7, k8, k9, k10⟩ := HKL.out _ hb
        rw [if_neg (wanted_no (d := 15) (b := true) rfl rfl ((HF.out.ev 4 rfl d4).trans (HVA.out 4 _ (by rw [HVV.out]; rfl) d4)) (by decide))]
        clear hρ
        exact hK.out undef _ ⟨HVA.out.free (i := 10) (by rw [HVV.out]; rfl) _, hb⟩
      focus
        obtain ⟨d4, _⟩ := hd
        obtain ⟨ρ, hρ⟩ : ∃ ρ, a'.eval = ρ := ⟨_, rfl⟩
        have hcst : ∀ v, ρ (.const v) = v := fun v => (congrFun hρ (.const v)).symm
        have l1 : ρ (.tmp 1) = .int .i64 offs := (congrFun hρ (.tmp 1)).symm.trans (HF.out.lo 1 rfl)
        rw [if_neg (wanted_no (d := 15) (b := true) rfl rfl ((HF.out.ev 4 rfl d4).trans (HVA.out 4 _ (by rw [HVV.out]; rfl) d4)) (by decide))]
        clear hρ
        exact hK.out undef _ ⟨HVA.out.free (i := 11) (by rw [HVV.out]; rfl) _, hb⟩
      focus
        obtain ⟨d4, _⟩ := hd
        obtain ⟨ρ, hρ⟩ : ∃ ρ, a'.eval = ρ := ⟨_, rfl⟩
        have hcst : ∀ v, ρ (.const v) = v := fun v => (congrFun hρ (.const v)).symm
        have l2 : ρ (.tmp 2) = .int .i64 peo := (congrFun hρ (.tmp 2)).symm.trans (HF.out.lo 2 rfl)
        rw [if_neg (wanted_no (d := 15) (b := true) rfl rfl ((HF.out.ev 4 rfl d4).trans (HVA.out 4 _ (by rw [HVV.out]; rfl) d4)) (by decide))]
        clear hρ
        exact hK.out undef _ ⟨HVA.out.free (i := 12) (by rw [HVV.out]; rfl) _, hb⟩
      focus
        obtain ⟨d4, _⟩ := hd
        obtain ⟨ρ, hρ⟩ : ∃ ρ, a'.eval = ρ := ⟨_, rfl⟩
        have hcst : ∀ v, ρ (.const v) = v := fun v => (congrFun hρ (.const v)).symm
        have l3 : ρ (.tmp 3) = .int .i64 cla := (congrFun hρ (.tmp 3)).symm.trans (HF.out.lo 3 rfl)
        rw [if_neg (wanted_no (d := 15) (b := true) rfl rfl ((HF.out.ev 4 rfl d4).trans (HVA.out 4 _ (by rw [HVV.out]; rfl) d4)) (by decide))]
        clear hρ
        exact hK.out undef _ ⟨HVA.out.free (i := 13) (by rw [HVV.out]; rfl) _, hb⟩
      focus
        obtain ⟨d10, d11, d12, d13, d9, d4, _⟩ := hd
        obtain ⟨ρ, hρ⟩ : ∃ ρ, a'.eval = ρ := ⟨_, rfl⟩
        have hcst : ∀ v, ρ (.const v) = v := fun v => (congrFun hρ (.const v)).symm
        have hfun : ∀ k, ρ (.func k) = .func (.func k) #[] #[] := fun k => (congrFun hρ (.func k)).symm
        have v10 : ρ (.tmp 21) = xs 10 := (congrFun hρ (.tmp 21)).symm.trans (HF.out.ev 10 rfl d10)
        have v11 : ρ (.tmp 22) = xs 11 := (congrFun hρ (.tmp 22)).symm.trans (HF.out.ev 11 rfl d11)
        have v12 : ρ (.tmp 23) = xs 12 := (congrFun hρ (.tmp 23)).symm.trans (HF.out.ev 12 rfl d12)
        have v13 : ρ (.tmp 24) = xs 13 := (congrFun hρ (.tmp 24)).symm.trans (HF.out.ev 13 rfl d13)
        rw [if_neg (wanted_no (d := 15) (b := true) rfl rfl ((HF.out.ev 4 rfl d4).trans (HVA.out 4 _ (by rw [HVV.out]; rfl) d4)) (by decide))]
        clear hρ
        exact hK.out undef _ ⟨HVA.out.free (i := 14) (by rw [HVV.out]; rfl) _, hb⟩
      focus
        obtain ⟨d9, d14, d4, _⟩ := hd
        obtain ⟨ρ, hρ⟩ : ∃ ρ, a'.eval = ρ := ⟨_, rfl⟩
        have hcst : ∀ v, ρ (.const v) = v := fun v => (congrFun hρ (.const v)).symm
        have v9 : ρ (.tmp 20) = xs 9 := (congrFun hρ (.tmp 20)).symm.trans (HF.out.ev 9 rfl d9)
        have v14 : ρ (.tmp 25) = xs 14 := (congrFun hρ (.tmp 25)).symm.trans (HF.out.ev 14 rfl d14)
        rw [if_neg (wanted_no (d := 15) (b := true) rfl rfl ((HF.out.ev 4 rfl d4).trans (HVA.out 4 _ (by rw [HVV.out]; rfl) d4)) (by decide))]
        clear hρ
        exact hK.out undef _ ⟨HVA.out.free (i := 15) (by rw [HVV.out]; rfl) _, hb⟩
      focus
        obtain ⟨d4, d15, _⟩ := hd
        obtain ⟨ρ, hρ⟩ : ∃ ρ, a'.eval = ρ := ⟨_, rfl⟩
        have hcst : ∀ v, ρ (.const v) = v := fun v => (congrFun hρ (.const v)).symm
        have v4 : ρ (.tmp 15) = .bool true := (congrFun hρ (.tmp 15)).symm.trans ((HF.out.ev 4 rfl d4).trans (HVA.out 4 _ (by rw [HVV.out]; rfl) d4))
        have v15 : ρ (.tmp 26) = xs 15 := (congrFun hρ (.tmp 26)).symm.trans (HF.out.ev 15 rfl d15)
        rw [if_pos (by simp [Region.wanted])]
        unfold Oper.wp
        rw [hρ]
        clear hρ
        go_simp
        exact hK.out _ _ ⟨HVA.out.set (i := 16) (by rw [HVV.out]; rfl), hb⟩
      focus
        obtain ⟨d16, d14, d0, d1, d2, d3, d4, d5, d6, d7, d8, d9, d10, d11, d12, d13, _, d15, _, _⟩ := hd
        obtain ⟨ρ, hρ⟩ : ∃ ρ, a'.eval = ρ := ⟨_, rfl⟩
        have hcst : ∀ v, ρ (.const v) = v := fun v => (congrFun hρ (.const v)).symm
        have v16 : ρ (.tmp 27) = .bool true := (congrFun hρ (.tmp 27)).symm.trans ((HF.out.ev 16 rfl d16).trans (HVA.out 16 _ (by rw [HVV.out]; rfl) d16))
        rw [if_pos (by simp [Region.wanted])]
        unfold Oper.wp
        rw [hρ]
        clear hρ
        go_simp
        exact hK.out _ _ ⟨HVA.out.set (i := 17) (by rw [HVV.out]; rfl), hb⟩
    focus
      intro L w' xs hL hJ
      obtain ⟨hv, hb⟩ := hJ
      have e0 : xs 0 = .pointer (some ⟨b0, 8, none⟩) := hv 0 _ (by rw [HVV.out]; rfl) (hL 0 (by decide))
      have e1 : xs 1 = .slice ah o.against.length ch := hv 1 _ (by rw [HVV.out]; rfl) (hL 1 (by decide))
      have e2 : xs 2 = .int .i64 (o.against.length : Int) := hv 2 _ (by rw [HVV.out]; rfl) (hL 2 (by decide))
      have e3 : xs 3 = .bool true := hv 3 _ (by rw [HVV.out]; rfl) (hL 3 (by decide))
      have e4 : xs 4 = .bool true := hv 4 _ (by rw [HVV.out]; rfl) (hL 4 (by decide))
      have e16 : xs 16 = .bool true := hv 16 _ (by rw [HVV.out]; rfl) (hL 16 (by decide))
      have e17 : xs 17 = .bool true := hv 17 _ (by rw [HVV.out]; rfl) (hL 17 (by decide))
      simp only [putGo, Act.put, List.setIfInBounds_toArray, List.set_cons_zero, List.set_cons_succ, e0, e1, e2, e3, e4, e16, e17]
      clear hv e0 e1 e2 e3 e4 e16 e17
      have HBE : Hid (Below w.heap.size w w') := Lib.hid (HB1.out.trans (hb.mono HB1.out.size))
      go_wp2
      go_ret
      exact ⟨rfl, HBE.out⟩
end Go.Proofs.Ytmfbabmejbppjaa
