/- Layers EX4 EA9 EX5 EA8 EX6 EX7 EX8 EX9 EX10 EX11 EX12: the walks and the plain laws under the last text, merged and cut to what it uses; nothing is assumed. -/
import Derived.Test.YteiaeaciaglmgaaGbc
set_option linter.unusedVariables false
set_option linter.unusedSimpArgs false
namespace Go.Proofs.Yteiaeaciaglmgaa
open Go.RowKit
def intsA (p : List Int) : Array Value := (p.map (Value.int .i64)).toArray
theorem intsA_at {p : List Int} {i : Nat} (hi : i < p.length) : (intsA p)[i]? = some (.int .i64 (nth p i)) := by
 unfold intsA
 simp [hi, nth_lt hi]
theorem intsA_size (p : List Int) : (intsA p).size = p.length := by simp [intsA]
theorem intsA_set (p : List Int) (i : Nat) (x : Int) : (intsA p).setIfInBounds i (.int .i64 x) = intsA (p.set i x) := by
 unfold intsA
 simp
theorem nth_set {p : List Int} {i j : Nat} (hi : i < p.length) (x : Int) : nth (p.set i x) j = if i = j then x else nth p j := by
 unfold nth
 rw [List.getD_eq_getElem?_getD, List.getElem?_set]
 by_cases e : i = j
 ·subst e; simp [hi]
 ·simp [e, List.getD_eq_getElem?_getD]
theorem ext_nthE {p q : List Int} (h : p.length = q.length) (hx : ∀ i, i < p.length → nth p i = nth q i) : p = q := by
 refine List.ext_getElem h (fun i h1 h2 => ?_)
 rw [← nth_lt h1, ← nth_lt h2]
 exact hx i h1
theorem swap_len (p : List Int) (i k : Nat) : (swapI p i k).length = p.length := by simp [swapI]
theorem nth_swap {p : List Int} {i k : Nat} (hi : i < p.length) (hk : k < p.length) (j : Nat) : nth (swapI p i k) j = if k = j then nth p i else if i = j then nth p k else nth p j := by
 unfold swapI
 rw [nth_set (by simpa using hk), nth_set hi]
/-- t pairs of the m numbers from o on swapped -/
def revN (p : List Int) (o m : Nat) : Nat → List Int
 | 0 => p
 | t + 1 => swapI (revN p o m t) (o + t) (o + (m - 1 - t))
theorem rev_len (p : List Int) (o m : Nat) : ∀ t, (revN p o m t).length = p.length
 | 0 => rfl
 | t + 1 => by simp only [revN]; rw [swap_len, rev_len]
theorem rev_at {p : List Int} {o m : Nat} (hm : o + m = p.length) : ∀ {t : Nat}, 2 * t ≤ m → ∀ j, j < m → nth (revN p o m t) (o + j) = if j < t ∨ m - 1 - j < t then nth p (o + (m - 1 - j)) else nth p (o + j)
 | 0, _, j, hj => by
  rw [if_neg (by omega)]
  rfl
 | t + 1, ht, j, hj => by
  simp only [revN]
  have hl := rev_len p o m t
  rw [nth_swap (by omega) (by omega), rev_at hm (by omega) t (by omega), rev_at hm (by omega) (m - 1 - t) (by omega), rev_at hm (by omega) j hj]
  by_cases e1 : o + (m - 1 - t) = o + j
  ·obtain rfl : j = m - 1 - t := by omega
   rw [if_pos rfl, if_neg (by omega), if_pos (by omega), show m - 1 - (m - 1 - t) = t by omega]
  ·rw [if_neg e1]
   by_cases e2 : o + t = o + j
   ·obtain rfl : j = t := by omega
    rw [if_pos rfl, if_neg (by omega), if_pos (by omega)]
   ·rw [if_neg e2]
    by_cases e3 : j < t ∨ m - 1 - j < t
    ·rw [if_pos e3, if_pos (by omega)]
    ·rw [if_neg e3, if_neg (by omega)]
theorem rev_low {p : List Int} {o m : Nat} (hm : o + m = p.length) : ∀ {t : Nat}, 2 * t ≤ m → ∀ j, j < o → nth (revN p o m t) j = nth p j
 | 0, _, j, _ => rfl
 | t + 1, ht, j, hj => by
  simp only [revN]
  have hl := rev_len p o m t
  rw [nth_swap (by omega) (by omega), if_neg (by omega), if_neg (by omega), rev_low hm (by omega) j hj]
theorem rev_all {p : List Int} {o m t : Nat} (hm : o + m = p.length) (h1 : 2 * t ≤ m) (h2 : m ≤ 2 * t + 1) : revN p o m t = p.take o ++ (p.drop o).reverse := by
 refine ext_nthE (by rw [rev_len]; simp; omega) (fun i hi => ?_)
 rw [rev_len] at hi
 have ht : (p.take o).length = o := by rw [List.length_take]; omega
 by_cases e : i < o
 ·rw [rev_low hm h1 i e]
  unfold nth
  rw [List.getD_eq_getElem?_getD, List.getD_eq_getElem?_getD, List.getElem?_append_left (by omega), List.getElem?_take, if_pos e]
 ·obtain ⟨j, rfl⟩ : ∃ j, i = o + j := ⟨i - o, by omega⟩
  have hj : j < m := by omega
  have hr : nth (p.take o ++ (p.drop o).reverse) (o + j) = nth p (o + (m - 1 - j)) := by
   unfold nth
   rw [List.getD_eq_getElem?_getD, List.getElem?_append_right (by omega), ht, show o + j - o = j by omega, List.getElem?_reverse (by rw [List.length_drop]; omega), List.getElem?_drop, List.length_drop, ← List.getD_eq_getElem?_getD]
   congr 1
   omega
  rw [hr, rev_at hm h1 j hj]
  split
  ·rfl
  ·rw [show m - 1 - j = j by omega]
theorem CellsN.lt' {w : World} {b : Nat} {c : Array Value} (h : CellsN w b c) (i : Nat) (hi : i < c.size) : ∃ u, w.cell? ⟨b, i, none⟩ = some u := ⟨c[i], by rw [h.cell]; simp [hi]⟩
theorem some_in {w : World} {b i : Nat} (h : ∃ u, w.cell? ⟨b, i, none⟩ = some u) : ∃ u, w.cell? ⟨b, i, none⟩ = some u := h
set_option maxHeartbeats 4000000 in
set_option maxRecDepth 100000 in
/-- slices.Reverse of the numbers from o on -/
theorem reverse_any (w : World) (g o m cap : Nat) (p : List Int) (h : CellsN w g (intsA p)) (hm : o + m = p.length) (hp : p.length ≤ 100000) (hcap : m ≤ cap) (hcap2 : cap ≤ 100000) :
  Calls Try.prog 58 #[.slice (some ⟨g, o, none⟩) m cap] w fun e w' => (∃ v, e = .returned v) ∧ CellsN w' g (intsA (p.take o ++ (p.drop o).reverse)) ∧ w.grownBy w' (some g) := by
 have HC := Lib.hid h
 have HM := Lib.hid hm
 clear h hm
 go_enter Try.func58, Try.ntmps58
 go_wp2
 go_loopw [2, 3] (fun i' j' wr => ∃ t : Nat, 2 * t ≤ m + 1 ∧ (2 * t ≤ m ∨ m = 0) ∧ i' = .int .i64 (t : Nat) ∧ j' = .int .i64 ((m : Int) - 1 - t) ∧ CellsN wr g (intsA (revN p o m t)) ∧ w.grownBy wr (some g)) (fun i' _ _ => m - (intOf i').toNat)
 case atStart => exact ⟨0, by omega, by omega, rfl, by go_num, HC.out, grown_refl _ _⟩
 case round =>
  obtain ⟨t, ht1, ht2, rfl, rfl, hcw, hgw⟩ := hrel
  have HCW := Lib.hid hcw
  have HGW := Lib.hid hgw
  clear hcw hgw
  by_cases hlt : 2 * t + 1 < m
  ·have hd : decide ((t : Int) < (m : Int) - 1 - t) = true := decide_eq_true (by omega)
   obtain ⟨k, hk⟩ : ∃ k, m - 1 - t = k := ⟨_, rfl⟩
   have hkm : (m : Int) - 1 - t = (k : Int) := by omega
   have HKM := Lib.hid hkm
   have htm : t < m := by omega
   have hkl : k < m := by omega
   have hdn : decide (t < k) = true := decide_eq_true (by omega)
   obtain ⟨C0, hC0⟩ : ∃ C, intsA (revN p o m t) = C := ⟨_, rfl⟩
   obtain ⟨xi, hxi⟩ : ∃ x, nth (revN p o m t) (o + t) = x := ⟨_, rfl⟩
   obtain ⟨xk, hxk⟩ : ∃ x, nth (revN p o m t) (o + k) = x := ⟨_, rfl⟩
   have HCI : Hid (C0[o + t]? = some (.int .i64 xi)) := Lib.hid (by rw [← hC0, ← hxi]; exact intsA_at (by rw [rev_len]; have := HM.out; omega))
   have HCK : Hid (C0[o + k]? = some (.int .i64 xk)) := Lib.hid (by rw [← hC0, ← hxk]; exact intsA_at (by rw [rev_len]; have := HM.out; omega))
   have HLI : Hid (o + t < C0.size) := Lib.hid (by rw [← hC0, intsA_size, rev_len]; have := HM.out; omega)
   have HLK : Hid (o + k < C0.size) := Lib.hid (by rw [← hC0, intsA_size, rev_len]; have := HM.out; omega)
   have HSW : Hid ((C0.setIfInBounds (o + t) (.int .i64 xk)).setIfInBounds (o + k) (.int .i64 xi) = intsA (revN p o m (t + 1))) := Lib.hid (by
    rw [← hC0, intsA_set, intsA_set]
    simp only [revN, swapI, hk, hxi, hxk])
   have HC0 : Hid (CellsN wr g C0) := Lib.hid (by rw [← hC0]; exact HCW.out)
   rw [hkm] at hd ⊢
   obtain ⟨WW, hWW⟩ : ∃ W, wr = W := ⟨_, rfl⟩
   rw [hWW] at HC0 HGW ⊢
   clear hC0 hxi hxk hk hkm hWW HCW
   go_wp2
   have HLIt := HLI
   obtain ⟨V, hV⟩ : ∃ V : List (Option Value), V = [some (.slice (some ⟨g, o, none⟩) m cap), some (.int .i64 (t : Nat)), some (.slice (some ⟨g, o, none⟩) m cap), some (.int .i64 (k : Nat)), some (.slice (some ⟨g, o, none⟩) m cap), some (.int .i64 (k : Nat)), some (.pointer (some ⟨g, o + k, none⟩)), some (.int .i64 xk), some (.slice (some ⟨g, o, none⟩) m cap), some (.int .i64 (t : Nat)), some (.pointer (some ⟨g, o + t, none⟩)), some (.int .i64 xi), some (.pointer (some ⟨g, o + t, none⟩)), none, some (.pointer (some ⟨g, o + k, none⟩)), none] := ⟨_, rfl⟩
   have HVV := Lib.hid hV
   clear hV
   refine wp_region_V [some 14, some 15, some 16, some 17, some 18, some 19, some 20, some 21, some 22, some 23, some 24, some 25, some 26, none, some 27, none] (fun L w' xs => ValsAt V L xs ∧ ((L 13 = false → CellsN w' g C0) ∧ (L 13 = true → L 15 = false → CellsN w' g (C0.setIfInBounds (o + t) (.int .i64 xk))) ∧ (L 15 = true → CellsN w' g ((C0.setIfInBounds (o + t) (.int .i64 xk)).setIfInBounds (o + k) (.int .i64 xi))) ∧ WW.grownBy w' (some g) ∧ (L 13 = true → L 7 = true ∧ L 11 = true) ∧ (L 15 = true → L 13 = true))) (by kernel_rfl) (by kernel_rfl) (by rfl) (by rfl) (by rfl) ?_ ?_ ?_
   focus
    exact fun xs => ⟨ValsAt.none _ _, (fun _ => HC0.out), (fun e => by cases e), (fun e => by cases e), grown_drew WW (some g), (fun e => by cases e), (fun e => by cases e)⟩
   focus
    refine ⟨?_, ?_, ?_, ?_, ?_, ?_, ?_, ?_, ?_, ?_, ?_, ?_, ?_, ?_, ?_, ?_, trivial⟩
    all_goals
     intro L a' w' xs hi hd hf hJ K hK
     obtain ⟨hv, h9⟩ := hJ
     have HF := Lib.hid hf
     have HVA := Lib.hid hv
     have HLI := Lib.hid hi
     clear hf hv hi
    focus
     clear hd
     obtain ⟨ρ, hρ⟩ : ∃ ρ, a'.eval = ρ := ⟨_, rfl⟩
     have hcst : ∀ v, ρ (.const v) = v := fun v => (congrFun hρ (.const v)).symm
     have l0 : ρ (.tmp 0) = .slice (some ⟨g, o, none⟩) m cap := (congrFun hρ (.tmp 0)).symm.trans (HF.out.lo 0 rfl)
     rw [if_pos (by simp [Region.wanted])]
     unfold Oper.wp
     rw [hρ]
     clear hρ
     go_simp
     exact hK.out _ _ ⟨HVA.out.set (i := 0) (by rw [HVV.out]; rfl), (by exact h9)⟩
    focus
     clear hd
     obtain ⟨ρ, hρ⟩ : ∃ ρ, a'.eval = ρ := ⟨_, rfl⟩
     have hcst : ∀ v, ρ (.const v) = v := fun v => (congrFun hρ (.const v)).symm
     have l2 : ρ (.tmp 2) = .int .i64 (t : Nat) := (congrFun hρ (.tmp 2)).symm.trans (HF.out.lo 2 rfl)
     rw [if_pos (by simp [Region.wanted])]
     unfold Oper.wp
     rw [hρ]
     clear hρ
     go_simp
     exact hK.out _ _ ⟨HVA.out.set (i := 1) (by rw [HVV.out]; rfl), (by exact h9)⟩
    focus
     clear hd
     obtain ⟨ρ, hρ⟩ : ∃ ρ, a'.eval = ρ := ⟨_, rfl⟩
     have hcst : ∀ v, ρ (.const v) = v := fun v => (congrFun hρ (.const v)).symm
     have l0 : ρ (.tmp 0) = .slice (some ⟨g, o, none⟩) m cap := (congrFun hρ (.tmp 0)).symm.trans (HF.out.lo 0 rfl)
     rw [if_pos (by simp [Region.wanted])]
     unfold Oper.wp
     rw [hρ]
     clear hρ
     go_simp
     exact hK.out _ _ ⟨HVA.out.set (i := 2) (by rw [HVV.out]; rfl), (by exact h9)⟩
    focus
     clear hd
     obtain ⟨ρ, hρ⟩ : ∃ ρ, a'.eval = ρ := ⟨_, rfl⟩
     have hcst : ∀ v, ρ (.const v) = v := fun v => (congrFun hρ (.const v)).symm
     have l3 : ρ (.tmp 3) = .int .i64 (k : Nat) := (congrFun hρ (.tmp 3)).symm.trans (HF.out.lo 3 rfl)
     rw [if_pos (by simp [Region.wanted])]
     unfold Oper.wp
     rw [hρ]
     clear hρ
     go_simp
     exact hK.out _ _ ⟨HVA.out.set (i := 3) (by rw [HVV.out]; rfl), (by exact h9)⟩
    focus
     clear hd
     obtain ⟨ρ, hρ⟩ : ∃ ρ, a'.eval = ρ := ⟨_, rfl⟩
     have hcst : ∀ v, ρ (.const v) = v := fun v => (congrFun hρ (.const v)).symm
     have l0 : ρ (.tmp 0) = .slice (some ⟨g, o, none⟩) m cap := (congrFun hρ (.tmp 0)).symm.trans (HF.out.lo 0 rfl)
     rw [if_pos (by simp [Region.wanted])]
     unfold Oper.wp
     rw [hρ]
     clear hρ
     go_simp
     exact hK.out _ _ ⟨HVA.out.set (i := 4) (by rw [HVV.out]; rfl), (by exact h9)⟩
    focus
     clear hd
     obtain ⟨ρ, hρ⟩ : ∃ ρ, a'.eval = ρ := ⟨_, rfl⟩
     have hcst : ∀ v, ρ (.const v) = v := fun v => (congrFun hρ (.const v)).symm
     have l3 : ρ (.tmp 3) = .int .i64 (k : Nat) := (congrFun hρ (.tmp 3)).symm.trans (HF.out.lo 3 rfl)
     rw [if_pos (by simp [Region.wanted])]
     unfold Oper.wp
     rw [hρ]
     clear hρ
     go_simp
     exact hK.out _ _ ⟨HVA.out.set (i := 5) (by rw [HVV.out]; rfl), (by exact h9)⟩
    focus
     obtain ⟨d4, d5, _⟩ := hd
     obtain ⟨ρ, hρ⟩ : ∃ ρ, a'.eval = ρ := ⟨_, rfl⟩
     have hcst : ∀ v, ρ (.const v) = v := fun v => (congrFun hρ (.const v)).symm
     have v4 : ρ (.tmp 18) = .slice (some ⟨g, o, none⟩) m cap := (congrFun hρ (.tmp 18)).symm.trans ((HF.out.ev 4 rfl d4).trans (HVA.out 4 _ (by rw [HVV.out]; rfl) d4))
     have v5 : ρ (.tmp 19) = .int .i64 (k : Nat) := (congrFun hρ (.tmp 19)).symm.trans ((HF.out.ev 5 rfl d5).trans (HVA.out 5 _ (by rw [HVV.out]; rfl) d5))
     rw [if_pos (by simp [Region.wanted])]
     unfold Oper.wp
     rw [hρ]
     clear hρ
     go_simp
     exact hK.out _ _ ⟨HVA.out.set (i := 6) (by rw [HVV.out]; rfl), (by exact h9)⟩
    focus
     obtain ⟨d6, _⟩ := hd
     obtain ⟨ρ, hρ⟩ : ∃ ρ, a'.eval = ρ := ⟨_, rfl⟩
     have hcst : ∀ v, ρ (.const v) = v := fun v => (congrFun hρ (.const v)).symm
     have v6 : ρ (.tmp 20) = .pointer (some ⟨g, o + k, none⟩) := (congrFun hρ (.tmp 20)).symm.trans ((HF.out.ev 6 rfl d6).trans (HVA.out 6 _ (by rw [HVV.out]; rfl) d6))
     have e13 : L 13 = false := by
      cases e : L 13 with
      | false => rfl
      | true => have := (h9.2.2.2.2.1 e).1; rw [HLI.out] at this; cases this
     have m0 := ((h9.1 e13).cell (o + k)).trans HCK.out
     rw [if_pos (by simp [Region.wanted])]
     unfold Oper.wp
     rw [hρ]
     clear hρ
     go_simp
     exact hK.out _ _ ⟨HVA.out.set (i := 7) (by rw [HVV.out]; rfl), ⟨h9.1, h9.2.1, h9.2.2.1, h9.2.2.2.1, (fun e => ⟨rfl, (h9.2.2.2.2.1 e).2⟩), h9.2.2.2.2.2⟩⟩
    focus
     clear hd
     obtain ⟨ρ, hρ⟩ : ∃ ρ, a'.eval = ρ := ⟨_, rfl⟩
     have hcst : ∀ v, ρ (.const v) = v := fun v => (congrFun hρ (.const v)).symm
     have l0 : ρ (.tmp 0) = .slice (some ⟨g, o, none⟩) m cap := (congrFun hρ (.tmp 0)).symm.trans (HF.out.lo 0 rfl)
     rw [if_pos (by simp [Region.wanted])]
     unfold Oper.wp
     rw [hρ]
     clear hρ
     go_simp
     exact hK.out _ _ ⟨HVA.out.set (i := 8) (by rw [HVV.out]; rfl), (by exact h9)⟩
    focus
     clear hd
     obtain ⟨ρ, hρ⟩ : ∃ ρ, a'.eval = ρ := ⟨_, rfl⟩
     have hcst : ∀ v, ρ (.const v) = v := fun v => (congrFun hρ (.const v)).symm
     have l2 : ρ (.tmp 2) = .int .i64 (t : Nat) := (congrFun hρ (.tmp 2)).symm.trans (HF.out.lo 2 rfl)
     rw [if_pos (by simp [Region.wanted])]
     unfold Oper.wp
     rw [hρ]
     clear hρ
     go_simp
     exact hK.out _ _ ⟨HVA.out.set (i := 9) (by rw [HVV.out]; rfl), (by exact h9)⟩
    focus
     obtain ⟨d8, d9, _⟩ := hd
     obtain ⟨ρ, hρ⟩ : ∃ ρ, a'.eval = ρ := ⟨_, rfl⟩
     have hcst : ∀ v, ρ (.const v) = v := fun v => (congrFun hρ (.const v)).symm
     have v8 : ρ (.tmp 22) = .slice (some ⟨g, o, none⟩) m cap := (congrFun hρ (.tmp 22)).symm.trans ((HF.out.ev 8 rfl d8).trans (HVA.out 8 _ (by rw [HVV.out]; rfl) d8))
     have v9 : ρ (.tmp 23) = .int .i64 (t : Nat) := (congrFun hρ (.tmp 23)).symm.trans ((HF.out.ev 9 rfl d9).trans (HVA.out 9 _ (by rw [HVV.out]; rfl) d9))
     rw [if_pos (by simp [Region.wanted])]
     unfold Oper.wp
     rw [hρ]
     clear hρ
     go_simp
     exact hK.out _ _ ⟨HVA.out.set (i := 10) (by rw [HVV.out]; rfl), (by exact h9)⟩
    focus
     obtain ⟨d10, _⟩ := hd
     obtain ⟨ρ, hρ⟩ : ∃ ρ, a'.eval = ρ := ⟨_, rfl⟩
     have hcst : ∀ v, ρ (.const v) = v := fun v => (congrFun hρ (.const v)).symm
     have v10 : ρ (.tmp 24) = .pointer (some ⟨g, o + t, none⟩) := (congrFun hρ (.tmp 24)).symm.trans ((HF.out.ev 10 rfl d10).trans (HVA.out 10 _ (by rw [HVV.out]; rfl) d10))
     have e13 : L 13 = false := by
      cases e : L 13 with
      | false => rfl
      | true => have := (h9.2.2.2.2.1 e).2; rw [HLI.out] at this; cases this
     have m0 := ((h9.1 e13).cell (o + t)).trans HCI.out
     rw [if_pos (by simp [Region.wanted])]
     unfold Oper.wp
     rw [hρ]
     clear hρ
     go_simp
     exact hK.out _ _ ⟨HVA.out.set (i := 11) (by rw [HVV.out]; rfl), ⟨h9.1, h9.2.1, h9.2.2.1, h9.2.2.2.1, (fun e => ⟨(h9.2.2.2.2.1 e).1, rfl⟩), h9.2.2.2.2.2⟩⟩
    focus
     obtain ⟨d0, d1, _, _, d4, d5, d6, d7, d11, _⟩ := hd
     obtain ⟨ρ, hρ⟩ : ∃ ρ, a'.eval = ρ := ⟨_, rfl⟩
     have hcst : ∀ v, ρ (.const v) = v := fun v => (congrFun hρ (.const v)).symm
     have v0 : ρ (.tmp 14) = .slice (some ⟨g, o, none⟩) m cap := (congrFun hρ (.tmp 14)).symm.trans ((HF.out.ev 0 rfl d0).trans (HVA.out 0 _ (by rw [HVV.out]; rfl) d0))
     have v1 : ρ (.tmp 15) = .int .i64 (t : Nat) := (congrFun hρ (.tmp 15)).symm.trans ((HF.out.ev 1 rfl d1).trans (HVA.out 1 _ (by rw [HVV.out]; rfl) d1))
     rw [if_pos (by simp [Region.wanted])]
     unfold Oper.wp
     rw [hρ]
     clear hρ
     go_simp
     exact hK.out _ _ ⟨HVA.out.set (i := 12) (by rw [HVV.out]; rfl), (by exact h9)⟩
    focus
     obtain ⟨d12, d7, d0, d1, d4, d5, d6, _, d11, _⟩ := hd
     obtain ⟨ρ, hρ⟩ : ∃ ρ, a'.eval = ρ := ⟨_, rfl⟩
     have hcst : ∀ v, ρ (.const v) = v := fun v => (congrFun hρ (.const v)).symm
     have v12 : ρ (.tmp 26) = .pointer (some ⟨g, o + t, none⟩) := (congrFun hρ (.tmp 26)).symm.trans ((HF.out.ev 12 rfl d12).trans (HVA.out 12 _ (by rw [HVV.out]; rfl) d12))
     have v7 : ρ (.tmp 21) = .int .i64 xk := (congrFun hρ (.tmp 21)).symm.trans ((HF.out.ev 7 rfl d7).trans (HVA.out 7 _ (by rw [HVV.out]; rfl) d7))
     rw [if_pos (by simp [Region.wanted])]
     unfold Oper.wp
     rw [hρ]
     clear hρ
     have e15 : L 15 = false := by
      cases e : L 15 with
      | false => rfl
      | true => have := h9.2.2.2.2.2 e; rw [HLI.out] at this; cases this
     have hcc := h9.1 HLI.out
     have fz := hcc.free (o + t)
     have m0 := (hcc.cell (o + t)).trans HCI.out
     have HST := Lib.hid (hcc.set (o + t) (.int .i64 xk))
     have HGG := Lib.hid (grown_trans h9.2.2.2.1 (grown_setCell w' ⟨g, o + t, none⟩ (.int .i64 xk)))
     clear hcc
     go_simp
     exact hK.out undef _ ⟨HVA.out.free (i := 13) (by rw [HVV.out]; rfl) _, (fun e => by cases e), (fun _ _ => HST.out), (fun e => by have e' : L 15 = true := e; rw [e15] at e'; cases e'), HGG.out, (fun _ => ⟨d7, d11⟩), (fun _ => rfl)⟩
    focus
     obtain ⟨d2, d3, d0, d1, _, _, d4, d5, d6, d7, d8, d9, d10, d11, d12, d13, _⟩ := hd
     obtain ⟨ρ, hρ⟩ : ∃ ρ, a'.eval = ρ := ⟨_, rfl⟩
     have hcst : ∀ v, ρ (.const v) = v := fun v => (congrFun hρ (.const v)).symm
     have v2 : ρ (.tmp 16) = .slice (some ⟨g, o, none⟩) m cap := (congrFun hρ (.tmp 16)).symm.trans ((HF.out.ev 2 rfl d2).trans (HVA.out 2 _ (by rw [HVV.out]; rfl) d2))
     have v3 : ρ (.tmp 17) = .int .i64 (k : Nat) := (congrFun hρ (.tmp 17)).symm.trans ((HF.out.ev 3 rfl d3).trans (HVA.out 3 _ (by rw [HVV.out]; rfl) d3))
     rw [if_pos (by simp [Region.wanted])]
     unfold Oper.wp
     rw [hρ]
     clear hρ
     go_simp
     exact hK.out _ _ ⟨HVA.out.set (i := 14) (by rw [HVV.out]; rfl), (by exact h9)⟩
    focus
     obtain ⟨d14, d11, d13, d0, d1, d2, d3, d4, d5, d6, d7, d8, d9, d10, _, d12, _, _⟩ := hd
     obtain ⟨ρ, hρ⟩ : ∃ ρ, a'.eval = ρ := ⟨_, rfl⟩
     have hcst : ∀ v, ρ (.const v) = v := fun v => (congrFun hρ (.const v)).symm
     have v14 : ρ (.tmp 27) = .pointer (some ⟨g, o + k, none⟩) := (congrFun hρ (.tmp 27)).symm.trans ((HF.out.ev 14 rfl d14).trans (HVA.out 14 _ (by rw [HVV.out]; rfl) d14))
     have v11 : ρ (.tmp 25) = .int .i64 xi := (congrFun hρ (.tmp 25)).symm.trans ((HF.out.ev 11 rfl d11).trans (HVA.out 11 _ (by rw [HVV.out]; rfl) d11))
     rw [if_pos (by simp [Region.wanted])]
     unfold Oper.wp
     rw [hρ]
     clear hρ
     have hcc := h9.2.1 d13 HLI.out
     have fz := hcc.free (o + k)
     have HIS := Lib.hid (some_in (i := o + k) (hcc.lt' (o + k) (by simp; exact HLK.out)))
     obtain ⟨yy, hyy⟩ := HIS.out
     have m0 := hyy
     have HST := Lib.hid (hcc.set (o + k) (.int .i64 xi))
     have HGG := Lib.hid (grown_trans h9.2.2.2.1 (grown_setCell w' ⟨g, o + k, none⟩ (.int .i64 xi)))
     clear hcc hyy
     go_simp
     exact hK.out undef _ ⟨HVA.out.free (i := 15) (by rw [HVV.out]; rfl) _, (fun e => by have e' : L 13 = false := e; rw [d13] at e'; cases e'), (fun _ e => by cases e), (fun _ => HST.out), HGG.out, (fun _ => ⟨d7, d11⟩), (fun _ => d13)⟩
   focus
    intro L w' xs hL hJ
    obtain ⟨hv, h9⟩ := hJ
    have e0 : xs 0 = .slice (some ⟨g, o, none⟩) m cap := hv 0 _ (by rw [HVV.out]; rfl) (hL 0 (by decide))
    have e1 : xs 1 = .int .i64 (t : Nat) := hv 1 _ (by rw [HVV.out]; rfl) (hL 1 (by decide))
    have e2 : xs 2 = .slice (some ⟨g, o, none⟩) m cap := hv 2 _ (by rw [HVV.out]; rfl) (hL 2 (by decide))
    have e3 : xs 3 = .int .i64 (k : Nat) := hv 3 _ (by rw [HVV.out]; rfl) (hL 3 (by decide))
    have e4 : xs 4 = .slice (some ⟨g, o, none⟩) m cap := hv 4 _ (by rw [HVV.out]; rfl) (hL 4 (by decide))
    have e5 : xs 5 = .int .i64 (k : Nat) := hv 5 _ (by rw [HVV.out]; rfl) (hL 5 (by decide))
    have e6 : xs 6 = .pointer (some ⟨g, o + k, none⟩) := hv 6 _ (by rw [HVV.out]; rfl) (hL 6 (by decide))
    have e7 : xs 7 = .int .i64 xk := hv 7 _ (by rw [HVV.out]; rfl) (hL 7 (by decide))
    have e8 : xs 8 = .slice (some ⟨g, o, none⟩) m cap := hv 8 _ (by rw [HVV.out]; rfl) (hL 8 (by decide))
    have e9 : xs 9 = .int .i64 (t : Nat) := hv 9 _ (by rw [HVV.out]; rfl) (hL 9 (by decide))
    have e10 : xs 10 = .pointer (some ⟨g, o + t, none⟩) := hv 10 _ (by rw [HVV.out]; rfl) (hL 10 (by decide))
    have e11 : xs 11 = .int .i64 xi := hv 11 _ (by rw [HVV.out]; rfl) (hL 11 (by decide))
    have e12 : xs 12 = .pointer (some ⟨g, o + t, none⟩) := hv 12 _ (by rw [HVV.out]; rfl) (hL 12 (by decide))
    have e14 : xs 14 = .pointer (some ⟨g, o + k, none⟩) := hv 14 _ (by rw [HVV.out]; rfl) (hL 14 (by decide))
    simp only [putGo, Act.put, List.setIfInBounds_toArray, List.set_cons_zero, List.set_cons_succ, e0, e1, e2, e3, e4, e5, e6, e7, e8, e9, e10, e11, e12, e14]
    clear hv e0 e1 e2 e3 e4 e5 e6 e7 e8 e9 e10 e11 e12 e14
   have HG9 := Lib.hid h9.2.2.2.1
   have HC9 := Lib.hid (h9.2.2.1 (hL 15 (by decide)))
   clear h9 hL
   go_wp2
   go_roundw
   case rel => exact ⟨t + 1, by omega, by omega, by go_num, by have := HKM.out; go_num, by rw [← HSW.out]; exact HC9.out, grown_trans HGW.out HG9.out⟩
   case measure => simp [intOf]; omega
  ·have hd : decide ((t : Int) < (m : Int) - 1 - t) = false := decide_eq_false (by omega)
   go_wp2
   go_end0
   refine ⟨⟨_, rfl⟩, ?_, HGW.out⟩
   rcases ht2 with ht2 | ht2
   ·rw [← rev_all HM.out ht2 (by omega)]
    exact HCW.out
   ·obtain rfl : t = 0 := by omega
    rw [← rev_all HM.out (t := 0) (by omega) (by omega)]
    exact HCW.out
end Go.Proofs.Yteiaeaciaglmgaa
set_option linter.unusedVariables false
set_option linter.unusedSimpArgs false
namespace Go.Proofs.Yteiaeaciaglmgaa
open Go.RowKit
/-- what an iterator value promises: its n elements are handed to yield in order; D: the blocks that it leans on; what it hands over may say from which block on it lies -/
def IterS (P : Program) (gf : FuncId) (lb : Array Value) (n : Nat) (enc : Nat → Nat → World → Array Value → Prop) (D : Nat → Prop) (w : World) : Prop :=
 ∀ (l : Nat) (ob : Nat → Prop) (W : World) (J Jx : Nat → Nat → World → Prop),
  Turned (fun k => ¬ D k) w W → (∀ k, ob k → k < W.heap.size ∧ ¬ D k) →
  (∀ s i A B, W.heap.size ≤ s → J s i A → Turned (fun k => W.heap.size ≤ k ∧ k < s) A B → J s i B) →
  (∀ s i A B, W.heap.size ≤ s → Jx s i A → Turned (fun k => W.heap.size ≤ k ∧ k < s) A B → Jx s i B) →
  (∀ s W1, W.heap.size ≤ s → s ≤ W1.heap.size → Below W.heap.size W W1 → J s 0 W1) →
  (∀ s i W1 args, W.heap.size ≤ s → s ≤ W1.heap.size → i < n → J s i W1 → enc s i W1 args → YieldAt Fence.wide 9 P l args W1 fun e W' =>
   (e = .returned (.bool true) ∧ J s (i + 1) W' ∧ Turned (fun k => ob k ∨ s ≤ k) W1 W') ∨ (e = .returned (.bool false) ∧ Jx s i W' ∧ Turned (fun k => ob k ∨ s ≤ k) W1 W')) →
  CallsIn Fence.wide 10 P gf (#[.func (.yield l) #[] #[]] ++ lb) W fun e W' => (∃ v, e = .returned v) ∧ ∃ s, W.heap.size ≤ s ∧ s ≤ W'.heap.size ∧ (J s n W' ∨ ∃ i, i < n ∧ Jx s i W')
/-- the rule for a loop over a function -/
theorem range_lawS {P : Program} {g : Operand} {ps : Array Tmp} {assign body : Code} {Q : Exit → Act → World → Prop} {a : Act} {w : World}
  {gf : FuncId} {lb : Array Value} (hg : a.eval g = .func (.func gf) #[] lb) (eg : Enters P gf) {n : Nat} {enc : Nat → Nat → World → Array Value → Prop} {D : Nat → Prop} {w0 : World} (hseq : IterS P gf lb n enc D w0)
  (hw0 : Turned (fun k => ¬ D k) w0 w) (hD : ∀ k, D k → k < w0.heap.size) (ob : Nat → Prop) (hob : ∀ k, ob k → k < w.heap.size ∧ ¬ D k)
  (hps : ∀ s i W args, enc s i W args → args.size = ps.size)
  (I : Nat → Nat → World → Prop) (Ix : Code → Nat → Nat → World → Prop)
  (hI : ∀ s i A B, w.heap.size ≤ s → I s i A → Turned (fun k => w.heap.size ≤ k ∧ k < s) A B → I s i B)
  (hIx : ∀ c s i A B, w.heap.size ≤ s → Ix c s i A → Turned (fun k => w.heap.size ≤ k ∧ k < s) A B → Ix c s i B)
  (h0 : ∀ s W1, w.heap.size ≤ s → s ≤ W1.heap.size → Below w.heap.size w W1 → I s 0 W1)
  (hround : ∀ (l s i : Nat) (W : World) (args : Array Value), w.heap.size + 2 ≤ s → s ≤ W.heap.size → i < n → I s i W → enc s i W args →
   assign.wpIn (Fence.wide.inRound l) 9 P (Exit.then (fun a₁ W₁ => Below W.heap.size W W₁ ∧ ∀ W₂, Turned (fun k => w.heap.size ≤ k ∧ k < w.heap.size + 2) W₁ W₂ → body.wpIn (Fence.wide.inRound l) 9 P (rndPost ob I Ix s i W₂) a₁ W₂) (fun _ _ _ => False)) { tmps := (ps.zip args).foldl (fun t (p, v) => t.setIfInBounds p v) a.tmps, defers := [] } W)
  (hdone : ∀ (d s : Nat) (W : World), w.heap.size ≤ d → d < s → s ≤ W.heap.size → I s n W → W.heap[d]? = some (.deferred (some [])) → Q .normal { a with defers := { target := .collected d, args := #[] } :: a.defers } W)
  (hstop : ∀ (d s i : Nat) (c : Code) (W : World), w.heap.size ≤ d → d < s → s ≤ W.heap.size → i < n → Ix c s i W → W.heap[d]? = some (.deferred (some [])) → c.wpIn Fence.wide 11 P Q { a with defers := { target := .collected d, args := #[] } :: a.defers } W) :
  (Code.rangeFunc g ps assign body).wpIn Fence.wide 11 P Q a w := by
 refine wpIn_rangeFunc ?_
 intro fn hfn
 obtain ⟨rec, hrec⟩ : ∃ rec : LoopState → Option Code → Loop, rec = fun st pe => { state := st, pending := pe, fn, tmps := a.tmps, params := ps, assign, body, defers := w.heap.size } := ⟨_, rfl⟩
 obtain ⟨W1, hW1⟩ : ∃ W1, (w.alloc (.deferred (some []))).alloc (.loop (rec .ready none)) = W1 := ⟨_, rfl⟩
 have hL1 : W1.heap[w.heap.size + 1]? = some (.loop (rec .ready none)) := by
  rw [← hW1]; have := World.alloc_heap_new (w.alloc (.deferred (some []))) (.loop (rec .ready none)); rwa [World.size_alloc] at this
 have hK1 : W1.heap[w.heap.size]? = some (.deferred (some [])) := by
  rw [← hW1]; exact (Below.heap_alloc _ _ _ (by simp)).trans (World.alloc_heap_new w _)
 have hb1 : Below w.heap.size w W1 := by
  rw [← hW1]; exact ((Below.refl _ w).alloc (Nat.le_refl _) _).alloc (by simp) _
 have hs1 : W1.heap.size = w.heap.size + 2 := by rw [← hW1]; simp
 refine ⟨w.heap.size + 1, [{ target := .collected w.heap.size, args := #[] }], W1, { target := .fn (.func gf) lb, args := #[.func (.yield (w.heap.size + 1)) #[] #[]] }, W1, gf,
  #[.func (.yield (w.heap.size + 1)) #[] #[]] ++ lb, W1, ?_, ?_, ?_, ?_, fun _ => by omega, ?_⟩
 ·rw [← hW1, hrec]; exact run_enterLoop_outer _ _ _ _ _
 ·simp only [resolve, hg]
  simp [go_sem]
 ·intro f' _; trivial
 ·simp [invoke, go_sem]; exact eg _ _
 ·
  have stay : ∀ {s : Nat} {A B : World}, W1.heap.size ≤ s → Turned (fun k => W1.heap.size ≤ k ∧ k < s) A B → ∀ {k : Nat} {o : Obj}, k < w.heap.size + 2 → A.heap[k]? = some o → B.heap[k]? = some o := by
   intro s A B hs ht k o hk ho
   exact (ht.block k (Array.getElem?_eq_some_iff.1 ho).1 (by omega)).trans ho
  refine (hseq (w.heap.size + 1) (fun k => ob k ∨ k = w.heap.size ∨ k = w.heap.size + 1) W1
   (fun s i W => s ≤ W.heap.size ∧ I s i W ∧ W.heap[w.heap.size + 1]? = some (.loop (rec .ready none)) ∧ W.heap[w.heap.size]? = some (.deferred (some [])))
   (fun s i W => s ≤ W.heap.size ∧ ∃ c, Ix c s i W ∧ W.heap[w.heap.size + 1]? = some (.loop (rec .done (some c))) ∧ W.heap[w.heap.size]? = some (.deferred (some [])))
   (hw0.trans (Turned.of_below hb1))
   (fun k hk => by
    rcases hk with hk | rfl | rfl
    ·exact ⟨by have := (hob k hk).1; omega, (hob k hk).2⟩
    ·exact ⟨by omega, fun hd => by have := hD _ hd; have := hw0.size; omega⟩
    ·exact ⟨by omega, fun hd => by have := hD _ hd; have := hw0.size; omega⟩)
   (fun s i A B hs hj ht => ⟨Nat.le_trans hj.1 ht.size, hI s i A B (by omega) hj.2.1 (ht.mono fun k _ hk => ⟨by omega, hk.2⟩), stay hs ht (by omega) hj.2.2.1, stay hs ht (by omega) hj.2.2.2⟩)
   (fun s i A B hs hj ht => by
    obtain ⟨h, c, hc, hl, hk⟩ := hj
    exact ⟨Nat.le_trans h ht.size, c, hIx c s i A B (by omega) hc (ht.mono fun k _ hk => ⟨by omega, hk.2⟩), stay hs ht (by omega) hl, stay hs ht (by omega) hk⟩)
   (fun s W2 hs hs2 hb2 => ⟨hs2, h0 s W2 (by omega) hs2 (hb1.trans (hb2.mono hb1.size)), (hb2.block _ (by omega)).trans hL1, (hb2.block _ (by omega)).trans hK1⟩)
   ?_).mono ?_
  ·
   rintro s i W args hs hsW hi ⟨_, hiI, hl, hk⟩ hen
   have hlt : w.heap.size + 1 < W.heap.size := (Array.getElem?_eq_some_iff.1 hl).1
   have hy := run_yield (P := P) (args := args) hl (by rw [hrec]; exact hps s i W args hen)
   rw [hrec] at hy
   have hrd := hround (w.heap.size + 1) s i W args (by omega) hsW hi hiI hen
   refine ⟨fn, _, assign, body, hy, roundIn_of_wpIn hfn (wpIn_mono hrd ?_)⟩
   rintro e a2 W2 hq
   cases e with
   | normal =>
    obtain ⟨hb2, hbody⟩ := hq
    have hl2 := (hb2.block _ hlt).trans hl
    have hk2 := (hb2.block _ (by omega)).trans hk
    have hlt2 : w.heap.size + 1 < W2.heap.size := (Array.getElem?_eq_some_iff.1 hl2).1
    have hbz : Turned (fun k => w.heap.size ≤ k ∧ k < w.heap.size + 2) W2 (W2.putObj (w.heap.size + 1) (.loop { rec .ready none with state := .busy })) := Turned.putObj _ _ _ ⟨by omega, by omega⟩
    have hl3 : (W2.putObj (w.heap.size + 1) (.loop { rec .ready none with state := .busy })).heap[w.heap.size + 1]? = some (.loop { rec .ready none with state := .busy }) := World.putObj_heap_same hlt2
    have hk3 : (W2.putObj (w.heap.size + 1) (.loop { rec .ready none with state := .busy })).heap[w.heap.size]? = some (.deferred (some [])) := (World.putObj_heap_other (by omega)).trans hk2
    refine ⟨_, run_beginRound hl2 (by rw [hrec]), wpIn_mono (hbody _ hbz) ?_⟩
    have fin : ∀ (jump : Option Code) (W3 : World), Turned (fun k => ob k ∨ s ≤ k) (W2.putObj (w.heap.size + 1) (.loop { rec .ready none with state := .busy })) W3 →
      (Instr.endRound (w.heap.size + 1) jump).run P W3 = .ok (.bool jump.isNone) (W3.putObj (w.heap.size + 1) (.loop (rec (if jump.isNone then .ready else .done) jump))) ∧
      (W3.putObj (w.heap.size + 1) (.loop (rec (if jump.isNone then .ready else .done) jump))).heap[w.heap.size + 1]? = some (.loop (rec (if jump.isNone then .ready else .done) jump)) ∧
      (W3.putObj (w.heap.size + 1) (.loop (rec (if jump.isNone then .ready else .done) jump))).heap[w.heap.size]? = some (.deferred (some [])) ∧
      Turned (fun k => (ob k ∨ k = w.heap.size ∨ k = w.heap.size + 1) ∨ s ≤ k) W (W3.putObj (w.heap.size + 1) (.loop (rec (if jump.isNone then .ready else .done) jump))) ∧
      Turned (fun k => w.heap.size ≤ k ∧ k < s) W3 (W3.putObj (w.heap.size + 1) (.loop (rec (if jump.isNone then .ready else .done) jump))) ∧ s ≤ W3.heap.size := fun jump W3 ht => by
     have nob : ∀ {k : Nat}, w.heap.size ≤ k → ¬ ob k := fun hk hx => by have := (hob _ hx).1; omega
     have q1 := (ht.block _ (by simpa using hlt2) (by rintro (h | h); exact nob (by omega) h; omega)).trans hl3
     have q2 := (ht.block _ (by simp; omega) (by rintro (h | h); exact nob (by omega) h; omega)).trans hk3
     have := run_endRound (P := P) jump q1
     have hz3 := ht.size
     simp at hz3
     have hz2 := hb2.size
     rw [hrec] at this ⊢
     refine ⟨this, World.putObj_heap_same (Array.getElem?_eq_some_iff.1 q1).1, (World.putObj_heap_other (by omega)).trans q2, ?_, Turned.putObj _ _ _ ⟨by omega, by omega⟩, by omega⟩
     have t1 : Turned (fun k => (ob k ∨ k = w.heap.size ∨ k = w.heap.size + 1) ∨ s ≤ k) W W2 := Turned.of_below hb2
     have t2 : Turned (fun k => (ob k ∨ k = w.heap.size ∨ k = w.heap.size + 1) ∨ s ≤ k) W2 (W2.putObj (w.heap.size + 1) (.loop { rec .ready none with state := .busy })) := hbz.mono fun k _ hk => by omega
     have t3 : Turned (fun k => (ob k ∨ k = w.heap.size ∨ k = w.heap.size + 1) ∨ s ≤ k) (W2.putObj (w.heap.size + 1) (.loop { rec .ready none with state := .busy })) W3 := ht.mono fun k _ hk => by
      rcases hk with hk | hk
      ·exact Or.inl (Or.inl hk)
      ·exact Or.inr hk
     rw [hrec] at t2 t3
     exact t1.trans (t2.trans (t3.trans (Turned.putObj _ _ _ (by omega))))
    rintro e a3 W3 hp
    cases e with
    | normal =>
     obtain ⟨ht3, hi3⟩ := hp
     obtain ⟨hr, hl4, hk4, ht4, ht5, hs3⟩ := fin none W3 ht3
     exact ⟨_, _, hr, .inl ⟨rfl, ⟨by simpa using hs3, hI s (i + 1) _ _ (by omega) hi3 ht5, hl4, hk4⟩, ht4⟩⟩
    | ret =>
     obtain ⟨ht3, hi3⟩ := hp
     obtain ⟨hr, hl4, hk4, ht4, ht5, hs3⟩ := fin (some .ret) W3 ht3
     exact ⟨_, _, hr, .inr ⟨rfl, ⟨by simpa using hs3, .ret, hIx _ s i _ _ (by omega) hi3 ht5, hl4, hk4⟩, ht4⟩⟩
    | exit id =>
     obtain ⟨ht3, hi3⟩ := hp
     obtain ⟨hr, hl4, hk4, ht4, ht5, hs3⟩ := fin (some (.exit id)) W3 ht3
     exact ⟨_, _, hr, .inr ⟨rfl, ⟨by simpa using hs3, .exit id, hIx _ s i _ _ (by omega) hi3 ht5, hl4, hk4⟩, ht4⟩⟩
    | goto t =>
     obtain ⟨ht3, hi3⟩ := hp
     obtain ⟨hr, hl4, hk4, ht4, ht5, hs3⟩ := fin (some (.goto t)) W3 ht3
     exact ⟨_, _, hr, .inr ⟨rfl, ⟨by simpa using hs3, .goto t, hIx _ s i _ _ (by omega) hi3 ht5, hl4, hk4⟩, ht4⟩⟩
    | panic ch => exact hp.elim
    | outgrown => exact hp.elim
   | ret => exact hq
   | exit id => exact hq
   | goto t => exact hq
   | panic ch => exact hq
   | outgrown => exact hq
  ·
   rintro e W2 ⟨⟨v, rfl⟩, s, hs, hsW, (⟨_, hi, hl, hk⟩ | ⟨i, hin, _, c, hi, hl, hk⟩)⟩
   ·have ht : Turned (fun k => w.heap.size ≤ k ∧ k < s) W2 (W2.putObj (w.heap.size + 1) (.loop { rec .ready none with state := .exhausted })) := Turned.putObj _ _ _ ⟨by omega, by omega⟩
    exact ⟨none, _, by have := run_endLoop (P := P) hl (by rw [hrec]; simp); rw [hrec] at this; exact this, hdone _ s _ (Nat.le_refl _) (by omega) (by simpa using hsW) (hI s n _ _ (by omega) hi (by rw [hrec] at ht; exact ht)) ((World.putObj_heap_other (by omega)).trans hk)⟩
   ·have ht : Turned (fun k => w.heap.size ≤ k ∧ k < s) W2 (W2.putObj (w.heap.size + 1) (.loop { rec .done (some c) with state := .exhausted })) := Turned.putObj _ _ _ ⟨by omega, by omega⟩
    exact ⟨some c, _, by have := run_endLoop (P := P) hl (by rw [hrec]; simp); rw [hrec] at this; exact this, hstop _ s i c _ (Nat.le_refl _) (by omega) (by simpa using hsW) hin (hIx c s i _ _ (by omega) hi (by rw [hrec] at ht; exact ht)) ((World.putObj_heap_other (by omega)).trans hk)⟩
end Go.Proofs.Yteiaeaciaglmgaa
set_option linter.unusedVariables false
set_option linter.unusedSimpArgs false
namespace Go.Proofs.Yteiaeaciaglmgaa
open Go.RowKit
attribute [local go_sem] Oper.semAt_some
theorem wpList_make_cells {ops : Array Oper} {rest : List Oper} {o : Oper} {a : Act} {w : World} {Q : Exit → Act → World → Prop} (hgd : o.guard = none) (l c : Operand) (hop : o.op = Op.makeSlice 25 l c)
  {m : Nat} (hl : a.eval l = .int .i64 (m : Int)) (hc : a.eval c = .int .i64 (m : Int)) (hm : m ≤ 100000)
  (h : wpList Try.prog ops Q rest (a.put o.dst (.slice (some ⟨w.heap.size, 0, none⟩) m m)) (w.alloc (.cells (intsA (List.replicate m 0)) 3))) : wpList Try.prog ops Q (o :: rest) a w := by
 obtain ⟨i0, hi, hz0, hz1, hz2⟩ := info_parts int_info
 refine wpList_plain hgd fun K hK => ?_
 have hr := run_make (P := Try.prog) w 25 3 i0 (.int .i64 0) Try.underlying25 hi hz0 .i64 .i64 m m (by omega) (by omega) (by rw [hz2]; omega) (by omega)
 simp only [Int.toNat_natCast, hz1, Nat.mul_one] at hr
 have hmc : madeCells (Value.int .i64 0).cells m = intsA (List.replicate m 0) := by
  apply Array.ext
  ·simp [madeCells, intsA]
  ·intro i h1 h2
   simp [madeCells, Value.cells, Nat.mod_one, intsA]
 unfold Oper.wp
 simp only [execOp, hop, hl, hc]
 simp [hr, Result.andThen]
 rw [hmc]
 exact hK _ _ h
/-- the first k numbers, then noughts -/
def fillL (n k : Nat) : List Int := (List.range k).map Int.ofNat ++ List.replicate (n - k) 0
theorem fill_len {n k : Nat} (h : k ≤ n) : (fillL n k).length = n := by simp [fillL]; omega
theorem fill_zero (n : Nat) : fillL n 0 = List.replicate n 0 := by simp [fillL]
theorem fill_all (n : Nat) : fillL n n = (List.range n).map Int.ofNat := by simp [fillL]
theorem fill_step {n k : Nat} (h : k < n) : (fillL n k).set k (k : Int) = fillL n (k + 1) := by
 unfold fillL
 have hl : ((List.range k).map Int.ofNat).length = k := by simp
 rw [List.set_append_right _ _ (by omega), hl, Nat.sub_self, show n - k = (n - (k + 1)) + 1 by omega, List.replicate_succ, List.set_cons_zero, List.range_succ, List.map_append, List.append_assoc]
 rfl
/-- the numbers of block g -/
def rdL (W : World) (g n : Nat) : List Int := (List.range n).map fun i => match W.cell? ⟨g, i, none⟩ with
 | some v => intOf v
 | none => 0
theorem rd_at {W : World} {g : Nat} {p : List Int} (h : CellsN W g (intsA p)) : rdL W g p.length = p := by
 unfold rdL
 refine List.ext_getElem (by simp) (fun i h1 h2 => ?_)
 rw [List.getElem_map, List.getElem_range]
 rw [h.cell i, intsA_at h2]
 simp [intOf, nth_lt h2]
theorem perm_idx {n j : Nat} (hj : j < (permsL n).length) : (permsL n).idxOf (rowAt (permsL n) j) = j := by
 have hs := permsL_srt n
 obtain ⟨i, hi⟩ : ∃ i, (permsL n).idxOf (rowAt (permsL n) j) = i := ⟨_, rfl⟩
 have hm := rowE_mem hj
 have hil : i < (permsL n).length := by rw [← hi]; exact List.idxOf_lt_length_iff.2 hm
 have he : rowAt (permsL n) i = rowAt (permsL n) j := by
  have h := List.getElem_idxOf (x := rowAt (permsL n) j) (xs := permsL n) (by rw [hi]; exact hil)
  unfold rowAt at h ⊢
  rw [List.getD_eq_getElem?_getD, List.getElem?_eq_getElem hil]
  simp only [Option.getD_some]
  rw [← h]
  congr 1
  exact hi.symm
 rw [hi]
 rcases Nat.lt_trichotomy i j with h | h | h
 ·have := srtE_at hs h hj
  rw [he, ltL_irrefl] at this
  cases this
 ·exact h
 ·have := srtE_at hs h hil
  rw [he, ltL_irrefl] at this
  cases this
def permLeft (n g : Nat) (W : World) : Nat := (permsL n).length - (permsL n).idxOf (rdL W g n)
theorem permLeft_at {n g j : Nat} {W : World} (hj : j < (permsL n).length) (h : CellsN W g (intsA (rowAt (permsL n) j))) : permLeft n g W = (permsL n).length - j := by
 unfold permLeft
 have hl : (rowAt (permsL n) j).length = n := (permB_parts (mem_permsL.1 (rowE_mem hj))).2.1
 have := rd_at h
 rw [hl] at this
 rw [this, perm_idx hj]
theorem ints_of {W : World} {g m cap : Nat} {p : List Int} (h : CellsN W g (intsA p)) (hm : m = p.length) (hc : m ≤ cap) (hc2 : cap ≤ 100000) (h64 : ∀ x ∈ p, I64 x) : IsInts W.heap.size W (.slice (some ⟨g, 0, none⟩) m cap) p := by
 subst hm
 exact ⟨g, 0, cap, ⟨_, rfl, hc, by omega, .inl rfl⟩, by omega, h64, fun j hj => ⟨h.lt, by rw [Nat.zero_add]; exact (h.cell j).trans (intsA_at hj)⟩⟩
theorem perm_64 {n : Nat} (hn : n ≤ 100000) {p : List Int} (h : p ∈ permsL n) : ∀ x ∈ p, I64 x := fun x hx => by
 have := (permB_parts (mem_permsL.1 h)).1 x hx
 unfold I64
 omega
set_option maxHeartbeats 4000000 in
set_option maxRecDepth 100000 in
/-- explain.permutations: the iterator -/
theorem eperms_iter (bn n : Nat) (w : World) (hn1 : 1 ≤ n) (hn : n ≤ 50000) (hx : Box w bn #[.int .i64 (n : Int)]) :
  IterS Try.prog 56 #[.pointer (some ⟨bn, 0, none⟩)] (permsL n).length (fun s i W args => ∃ v, args = #[v] ∧ OwnInts s W v (rowAt (permsL n) i)) (fun k => k = bn) w := by
 intro l ob W J Jx hwW hob hJ hJx hst hY
 have hxW := hx.turned hwW (fun h => h rfl)
 have HX := Lib.hid hxW
 have HOB := Lib.hid hob
 have HJ := Lib.hid hJ
 have HST := Lib.hid hst
 have HY := Lib.hid hY
 have r0 := hxW.2
 have hzx := hxW.1
 have hbg : bn ≠ W.heap.size := by omega
 clear hob hJ hJx hst hY hx hwW hxW
 refine callsIn_of_wp Try.func56 rfl trivial ?_ rfl
 refine wpIn_wide.2 ?_
 simp only [Try.ntmps56, List.size_toArray, List.length_cons, List.length_nil, Nat.reduceAdd, Nat.reduceSub, Array.replicate_succ, Array.replicate_zero, List.push_toArray, List.append_toArray, List.nil_append, List.cons_append]
 go_wp2_with (at_make; refine wpList_make_cells (m := n) rfl _ _ rfl rfl rfl (by omega) ?_)
 refine wp_name (fun W1 hW1 => ?_)
 have HC1 : Hid (CellsN W1 W.heap.size (intsA (fillL n 0))) := Lib.hid (by rw [hW1, fill_zero]; exact CellsN.new _ _ _)
 have HB1 : Hid (Below W.heap.size W W1) := Lib.hid (by rw [hW1]; exact box_below' _ _)
 obtain ⟨g, hg⟩ : ∃ x, W.heap.size = x := ⟨_, rfl⟩
 have HG := Lib.hid hg
 rw [hg] at HC1 hbg
 clear hW1 r0
 rw [hg]
 have hgB : g ≤ W.heap.size ∧ W.heap.size ≤ g := by omega
 clear hg
 go_loopw [11] (fun i' wr => ∃ k : Nat, k ≤ n ∧ i' = .int .i64 (k : Nat) ∧ CellsN wr g (intsA (fillL n k)) ∧ Below W.heap.size W wr) (fun i' _ => n - (intOf i').toNat)
 case atStart => exact ⟨0, by omega, rfl, HC1.out, HB1.out⟩
 case round =>
  obtain ⟨k, hk, rfl, hcw, hbw⟩ := hrel
  have HCW := Lib.hid hcw
  have HBW := Lib.hid hbw
  by_cases hkl : k < n
  ·have c1 := (hcw.cell k).trans (intsA_at (by rw [fill_len hk]; exact hkl))
   have fz := hcw.free k
   have HST := Lib.hid (hcw.set k (.int .i64 (k : Int)))
   rw [intsA_set, fill_step hkl] at HST
   have HBS := Lib.hid (hbw.setCell (p := ⟨g, k, none⟩) (by show W.heap.size ≤ g; omega) (.int .i64 (k : Int)))
   clear hcw hbw
   go_wp2
   go_roundw
   case rel => exact ⟨k + 1, by omega, by go_num, HST.out, HBS.out⟩
   case measure => simp [intOf]; omega
  ·obtain rfl : k = n := by omega
   rw [fill_all, ← perms_first] at HCW
   have HLP : Hid (0 < (permsL k).length) := Lib.hid (by rw [permsL_len]; exact facN_pos k)
   clear hcw hbw
   go_upto_region 6 with fail
   obtain ⟨w9, hw9⟩ : ∃ W, wr = W := ⟨_, rfl⟩
   rw [hw9] at HCW HBW ⊢
   clear hw9
   go_loopw [] (fun wr => ∃ j : Nat, j < (permsL k).length ∧ CellsN wr g (intsA (rowAt (permsL k) j)) ∧ J (W.heap.size + 1) j wr ∧ Box wr bn #[.int .i64 (k : Int)] ∧ W.heap.size + 1 ≤ wr.heap.size) (fun wr => permLeft k g wr)
   case atStart =>
    have h1 := HCW.out.lt
    exact ⟨0, HLP.out, HCW.out, HST.out _ _ (by omega) (by omega) HBW.out, HX.out.ext HBW.out, by omega⟩
   case round =>
    obtain ⟨j, hj, hcw, hjw, hbx, hsz⟩ := hrel
    have HCJ := Lib.hid hcw
    have HJJ := Lib.hid hjw
    have HBX := Lib.hid hbx
    have HSZ := Lib.hid hsz
    have hpm := rowE_mem hj
    have hpb := permB_parts (mem_permsL.1 hpm)
    have HPI := Lib.hid (ints_of (m := k) (cap := k) hcw hpb.2.1.symm (Nat.le_refl _) (by omega) (perm_64 (by omega) hpm))
    have HNX := Lib.hid (perms_next hj)
    have HML := Lib.hid (permLeft_at hj hcw)
    obtain ⟨p, hp⟩ : ∃ x, rowAt (permsL k) j = x := ⟨_, rfl⟩
    rw [hp] at HCJ HPI HNX hpb
    have HPE := Lib.hid hp
    have HPN := Lib.hid hpb.2.2
    have HPL := Lib.hid hpb.2.1
    clear hcw hjw hbx hsz hpm hpb hp
    refine (wpIn_wide (n := 10)).1 ?_
    have HPI2 : Hid (IsInts wr.heap.size wr (.slice (some ⟨g, 0, none⟩) p.length k) p) := Lib.hid (by rw [HPL.out]; exact HPI.out)
    have HCL := Lib.hid (clone_any wr.heap.size g 0 k wr p HPI2.out (Nat.le_refl _))
    rw [HPL.out] at HCL
    gi_wp2_with (refine ⟨trivial, ?_⟩; gi_at_call 57; refine (callsIn_wide.2 HCL.out).mono ?_; rintro e w5 ⟨v, rfl, ho5, hb5⟩; obtain ⟨a5, n5, c5, rfl⟩ := ho5.form'; have HB5 := Lib.hid hb5; have HYY := Lib.hid (HY.out (W.heap.size + 1) j w5 _ (by omega) (by have := HSZ.out; have := hb5.size; omega) hj (HJ.out _ _ _ _ (by omega) HJJ.out (Turned.of_below hb5)) ⟨_, rfl, by rw [HPE.out]; exact ho5.mono (by have := HSZ.out; omega)⟩); obtain ⟨fn, tmps, assign, body, hy, hR⟩ := HYY.out; have HR := Lib.hid hR; have h1 : Fence.wide.depth.isSome = true → 1 ≤ 10 := (fun _ => by omega); clear hR hb5 ho5)
    refine HR.out.mono ?_
    have HOW : Hid (∀ q, q = bn ∨ q = g → ¬ (ob q ∨ W.heap.size + 1 ≤ q)) := Lib.hid (fun q hq h => by
     rcases h with h | h
     ·have h2 := HOB.out q h
      rcases hq with e | e
      ·exact h2.2 e
      ·omega
     ·rcases hq with e | e <;> omega)
    have HC5 := Lib.hid (HCJ.out.ext HB5.out)
    have HX5 := Lib.hid (HBX.out.ext HB5.out)
    have HZ5 : Hid (W.heap.size + 1 ≤ w5.heap.size) := Lib.hid (by have := HSZ.out; have := HB5.out.size; omega)
    rintro e W' (⟨rfl, hJ', ht⟩ | ⟨rfl, hJx', ht⟩)
    ·have HJ4 := Lib.hid hJ'
     have HC4 := Lib.hid (HC5.out.turned ht (HOW.out _ (.inr rfl)))
     have HX4 := Lib.hid (HX5.out.turned ht (HOW.out _ (.inl rfl)))
     have HZ4 : Hid (W.heap.size + 1 ≤ W'.heap.size) := Lib.hid (Nat.le_trans HZ5.out ht.size)
     have x4 := HX4.out.2
     clear hJ' ht hy h1
     gi_wp2
     have hk1 : (k : Int) - 2 = ((k - 1 : Nat) : Int) - 1 := by omega
     rw [hk1]
     clear hk1 x4
     gi_loopw [5] (fun i' W2 => ∃ u : Nat, u ≤ k - 1 ∧ i' = .int .i64 ((u : Int) - 1) ∧ upI p u = upI p (k - 1) ∧ Below W'.heap.size W' W2) (fun i' _ => (intOf i' + 1).toNat)
     case atStart => exact ⟨k - 1, Nat.le_refl _, rfl, rfl, Below.refl _ _⟩
     case round =>
      obtain ⟨u, hu, rfl, hup, hbu⟩ := hrel
      have HBU := Lib.hid hbu
      have HUP := Lib.hid hup
      have HCU := Lib.hid (HC4.out.ext hbu)
      have xu := (HX4.out.ext hbu).2
      clear hbu hup
      cases u with
      | zero =>
       have hge : decide ((0 : Int) ≤ ((0 : Nat) : Int) - 1) = false := decide_eq_false (by omega)
       have hl0 : decide (((0 : Nat) : Int) - 1 < 0) = true := decide_eq_true (by omega)
       have HLAST : Hid (j + 1 = (permsL k).length) := Lib.hid (by
        have h1 := HNX.out.1
        have h2 := HUP.out
        simp only [upI] at h2
        rw [← h2] at h1
        have h3 : ¬ j + 1 < (permsL k).length := fun h => by have := h1.2 h; omega
        omega)
       have HJF : Hid (J (W.heap.size + 1) (j + 1) wr) := Lib.hid (HJ.out _ _ _ _ (by omega) HJ4.out (Turned.of_below HBU.out))
       have HZF := Lib.hid HBU.out.size
       refine wpIn_wide.2 ?_
       go_wp2
       go_quiet (fail)
       go_wp2
       gi_wp2
       refine bodyPost_ret (results_none rfl _ _ _) rfl ?_
       exact ⟨⟨_, rfl⟩, W.heap.size + 1, by omega, by have := HZ4.out; have := HZF.out; show _ ≤ wr.heap.size; omega, .inl (by rw [← HLAST.out]; exact HJ.out _ _ _ _ (by omega) HJF.out ⟨rfl, rfl, rfl, Nat.le_refl _, fun _ _ _ => rfl⟩)⟩
      | succ i =>
       rw [show ((i + 1 : Nat) : Int) - 1 = ((i : Nat) : Int) by omega]
       have hge : decide ((0 : Int) ≤ ((i : Nat) : Int)) = true := decide_eq_true (by omega)
       have c1 := (HCU.out.cell i).trans (intsA_at (by rw [HPL.out]; omega))
       have c2 := (HCU.out.cell (i + 1)).trans (intsA_at (by rw [HPL.out]; omega))
       have HUS : Hid (upI p (i + 1) = if nth p (i + 1) < nth p i then upI p i else i + 1) := Lib.hid rfl
       obtain ⟨xi, hxi⟩ : ∃ x, nth p i = x := ⟨_, rfl⟩
       obtain ⟨xj, hxj⟩ : ∃ x, nth p (i + 1) = x := ⟨_, rfl⟩
       rw [hxi, hxj] at HUS
       rw [hxi] at c1
       rw [hxj] at c2
       have HXI := Lib.hid hxi
       have HXJ := Lib.hid hxj
       have hik : i + 1 < k := by omega
       have hik' : i < k := by omega
       clear hxi hxj
       by_cases hgt : xj < xi
       ·have hd : decide (xj < xi) = true := decide_eq_true hgt
        rw [if_pos hgt] at HUS
        clear hgt
        refine wpIn_wide.2 ?_
        go_wp2
        go_quiet (fail)
        go_wp2
        go_roundw
        case rel => exact ⟨i, by omega, by go_num, by rw [← HUS.out]; exact HUP.out, HBU.out.trans (below_drewN (Below.refl _ _) _)⟩
        case measure => simp [intOf]
       ·have hd : decide (xj < xi) = false := decide_eq_false hgt
        have hl0 : decide ((i : Int) < 0) = false := decide_eq_false (by omega)
        rw [if_neg hgt] at HUS
        have HUE : Hid (upI p (k - 1) = i + 1) := Lib.hid (by rw [← HUP.out, HUS.out])
        have HGE := Lib.hid hgt
        clear hgt
        refine wpIn_wide.2 ?_
        go_wp2
        go_quiet (fail)
        go_wp2
        have hk2 : (k : Int) - 1 = ((k : Nat) : Int) - 1 := rfl
        have HCX := Lib.hid c1
        clear hd hge hik' c2
        gi_wp2
        clear xu
        gi_loopw [6] (fun k' W2 => ∃ v : Nat, i + 1 < v ∧ v ≤ k ∧ k' = .int .i64 ((v : Int) - 1) ∧ gtI p xi v = gtI p xi k ∧ Below wr.heap.size wr W2) (fun k' _ => (intOf k').toNat)
        case atStart => exact ⟨k, hik, Nat.le_refl _, rfl, rfl, below_drewN (Below.refl _ _) _⟩
        case round =>
         obtain ⟨v, hv1, hv2, rfl, hgv, hbv⟩ := hrel
         have HBV := Lib.hid hbv
         have HGV := Lib.hid hgv
         have HCV := Lib.hid (HCU.out.ext hbv)
         have HBX5 := Lib.hid ((HX4.out.ext HBU.out).ext hbv)
         clear hbv hgv
         obtain ⟨y, rfl⟩ : ∃ y, v = y + 1 := ⟨v - 1, by omega⟩
         rw [show ((y + 1 : Nat) : Int) - 1 = (y : Int) by omega]
         have c1 := (HCV.out.cell i).trans (intsA_at (by rw [HPL.out]; omega))
         have c2 := (HCV.out.cell y).trans (intsA_at (by rw [HPL.out]; omega))
         have HGS : Hid (gtI p xi (y + 1) = if nth p y < xi then gtI p xi y else y) := Lib.hid rfl
         obtain ⟨xk, hxk⟩ : ∃ x, nth p y = x := ⟨_, rfl⟩
         rw [hxk] at HGS c2
         rw [HXI.out] at c1
         have HXK := Lib.hid hxk
         have hyk : y < k := by omega
         clear hxk
         by_cases hlt2 : xk < xi
         ·have hd : decide (xk < xi) = true := decide_eq_true hlt2
          rw [if_pos hlt2] at HGS
          have hyi : y ≠ i + 1 := fun e => by
           have h1 := HXK.out
           have h2 := HXJ.out
           rw [e] at h1
           have h3 := HGE.out
           have h4 : nth p i ≠ nth p (i + 1) := fun e2 => by have := nth_injC HPN.out (by rw [HPL.out]; omega) (by rw [HPL.out]; omega) e2; omega
           rw [HXI.out, HXJ.out] at h4
           omega
          clear hlt2
          refine wpIn_wide.2 ?_
          go_wp2
          go_quiet (fail)
          go_wp2
          go_roundw
          case rel => exact ⟨y, by omega, by omega, by go_num, by rw [← HGS.out]; exact HGV.out, HBV.out.trans (below_drewN (Below.refl _ _) _)⟩
          case measure => simp [intOf]; omega
         ·have hd : decide (xk < xi) = false := decide_eq_false hlt2
          rw [if_neg hlt2] at HGS
          have HGY : Hid (gtI p xi k = y) := Lib.hid (by rw [← HGV.out, HGS.out])
          clear hlt2
          refine wpIn_wide.2 ?_
          go_wp2
          go_quiet (fail)
          go_wp2
          gi_wp2
          refine wpIn_wide.2 ?_
          refine wp_name (fun WW hWW => ?_)
          have HWB : Hid (Below wr.heap.size wr WW) := Lib.hid (by rw [hWW]; exact below_drewN (Below.refl _ _) _)
          obtain ⟨C0, hC0⟩ : ∃ C, intsA p = C := ⟨_, rfl⟩
          have HC0 : Hid (CellsN WW g C0) := Lib.hid (by rw [← hC0]; exact HCV.out.ext HWB.out)
          have HCI : Hid (C0[i]? = some (.int .i64 xi)) := Lib.hid (by rw [← hC0, ← HXI.out]; exact intsA_at (by rw [HPL.out]; omega))
          have HCK : Hid (C0[y]? = some (.int .i64 xk)) := Lib.hid (by rw [← hC0, ← HXK.out]; exact intsA_at (by rw [HPL.out]; omega))
          have HLI : Hid (i < C0.size) := Lib.hid (by rw [← hC0, intsA_size, HPL.out]; omega)
          have HLK : Hid (y < C0.size) := Lib.hid (by rw [← hC0, intsA_size, HPL.out]; omega)
          have HSW : Hid ((C0.setIfInBounds i (.int .i64 xk)).setIfInBounds y (.int .i64 xi) = intsA (swapI p i y)) := Lib.hid (by
           rw [← hC0, intsA_set, intsA_set]
           simp only [swapI, HXI.out, HXK.out])
          have hik3 : i < k := by omega
          clear hC0 hWW c1 c2 hd
          obtain ⟨V, hV⟩ : ∃ V : List (Option Value), V = [some (.slice (some ⟨g, 0, none⟩) k k), some (.int .i64 (i : Nat)), some (.slice (some ⟨g, 0, none⟩) k k), some (.int .i64 (y : Nat)), some (.slice (some ⟨g, 0, none⟩) k k), some (.int .i64 (y : Nat)), some (.pointer (some ⟨g, y, none⟩)), some (.int .i64 xk), some (.slice (some ⟨g, 0, none⟩) k k), some (.int .i64 (i : Nat)), some (.pointer (some ⟨g, i, none⟩)), some (.int .i64 xi), some (.pointer (some ⟨g, i, none⟩)), none, some (.pointer (some ⟨g, y, none⟩)), none] := ⟨_, rfl⟩
          have HVV := Lib.hid hV
          clear hV
          refine wp_region_V [some 56, some 57, some 58, some 59, some 60, some 61, some 62, some 63, some 64, some 65, some 66, some 67, some 68, none, some 69, none] (fun L w' xs => ValsAt V L xs ∧ ((L 13 = false → CellsN w' g C0) ∧ (L 13 = true → L 15 = false → CellsN w' g (C0.setIfInBounds (i) (.int .i64 xk))) ∧ (L 15 = true → CellsN w' g ((C0.setIfInBounds (i) (.int .i64 xk)).setIfInBounds (y) (.int .i64 xi))) ∧ WW.grownBy w' (some g) ∧ (L 13 = true → L 7 = true ∧ L 11 = true) ∧ (L 15 = true → L 13 = true))) (by kernel_rfl) (by kernel_rfl) (by rfl) (by rfl) (by rfl) ?_ ?_ ?_
          focus
           exact fun xs => ⟨ValsAt.none _ _, (fun _ => HC0.out), (fun e => by cases e), (fun e => by cases e), grown_drew WW (some g), (fun e => by cases e), (fun e => by cases e)⟩
          focus
           refine ⟨?_, ?_, ?_, ?_, ?_, ?_, ?_, ?_, ?_, ?_, ?_, ?_, ?_, ?_, ?_, ?_, trivial⟩
           all_goals
            intro L a' w' xs hi hd hf hJ K hK
            obtain ⟨hv, h9⟩ := hJ
            have HF := Lib.hid hf
            have HVA := Lib.hid hv
            have HLI := Lib.hid hi
            clear hf hv hi
           focus
            clear hd
            obtain ⟨ρ, hρ⟩ : ∃ ρ, a'.eval = ρ := ⟨_, rfl⟩
            have hcst : ∀ v, ρ (.const v) = v := fun v => (congrFun hρ (.const v)).symm
            have l3 : ρ (.tmp 3) = .slice (some ⟨g, 0, none⟩) k k := (congrFun hρ (.tmp 3)).symm.trans (HF.out.lo 3 rfl)
            rw [if_pos (by simp [Region.wanted])]
            unfold Oper.wp
            rw [hρ]
            clear hρ
            go_simp
            exact hK.out _ _ ⟨HVA.out.set (i := 0) (by rw [HVV.out]; rfl), (by exact h9)⟩
           focus
            clear hd
            obtain ⟨ρ, hρ⟩ : ∃ ρ, a'.eval = ρ := ⟨_, rfl⟩
            have hcst : ∀ v, ρ (.const v) = v := fun v => (congrFun hρ (.const v)).symm
            have l5 : ρ (.tmp 5) = .int .i64 (i : Nat) := (congrFun hρ (.tmp 5)).symm.trans (HF.out.lo 5 rfl)
            rw [if_pos (by simp [Region.wanted])]
            unfold Oper.wp
            rw [hρ]
            clear hρ
            go_simp
            exact hK.out _ _ ⟨HVA.out.set (i := 1) (by rw [HVV.out]; rfl), (by exact h9)⟩
           focus
            clear hd
            obtain ⟨ρ, hρ⟩ : ∃ ρ, a'.eval = ρ := ⟨_, rfl⟩
            have hcst : ∀ v, ρ (.const v) = v := fun v => (congrFun hρ (.const v)).symm
            have l3 : ρ (.tmp 3) = .slice (some ⟨g, 0, none⟩) k k := (congrFun hρ (.tmp 3)).symm.trans (HF.out.lo 3 rfl)
            rw [if_pos (by simp [Region.wanted])]
            unfold Oper.wp
            rw [hρ]
            clear hρ
            go_simp
            exact hK.out _ _ ⟨HVA.out.set (i := 2) (by rw [HVV.out]; rfl), (by exact h9)⟩
           focus
            clear hd
            obtain ⟨ρ, hρ⟩ : ∃ ρ, a'.eval = ρ := ⟨_, rfl⟩
            have hcst : ∀ v, ρ (.const v) = v := fun v => (congrFun hρ (.const v)).symm
            have l6 : ρ (.tmp 6) = .int .i64 (y : Nat) := (congrFun hρ (.tmp 6)).symm.trans (HF.out.lo 6 rfl)
            rw [if_pos (by simp [Region.wanted])]
            unfold Oper.wp
            rw [hρ]
            clear hρ
            go_simp
            exact hK.out _ _ ⟨HVA.out.set (i := 3) (by rw [HVV.out]; rfl), (by exact h9)⟩
           focus
            clear hd
            obtain ⟨ρ, hρ⟩ : ∃ ρ, a'.eval = ρ := ⟨_, rfl⟩
            have hcst : ∀ v, ρ (.const v) = v := fun v => (congrFun hρ (.const v)).symm
            have l3 : ρ (.tmp 3) = .slice (some ⟨g, 0, none⟩) k k := (congrFun hρ (.tmp 3)).symm.trans (HF.out.lo 3 rfl)
            rw [if_pos (by simp [Region.wanted])]
            unfold Oper.wp
            rw [hρ]
            clear hρ
            go_simp
            exact hK.out _ _ ⟨HVA.out.set (i := 4) (by rw [HVV.out]; rfl), (by exact h9)⟩
           focus
            clear hd
            obtain ⟨ρ, hρ⟩ : ∃ ρ, a'.eval = ρ := ⟨_, rfl⟩
            have hcst : ∀ v, ρ (.const v) = v := fun v => (congrFun hρ (.const v)).symm
            have l6 : ρ (.tmp 6) = .int .i64 (y : Nat) := (congrFun hρ (.tmp 6)).symm.trans (HF.out.lo 6 rfl)
            rw [if_pos (by simp [Region.wanted])]
            unfold Oper.wp
            rw [hρ]
            clear hρ
            go_simp
            exact hK.out _ _ ⟨HVA.out.set (i := 5) (by rw [HVV.out]; rfl), (by exact h9)⟩
           focus
            obtain ⟨d4, d5, _⟩ := hd
            obtain ⟨ρ, hρ⟩ : ∃ ρ, a'.eval = ρ := ⟨_, rfl⟩
            have hcst : ∀ v, ρ (.const v) = v := fun v => (congrFun hρ (.const v)).symm
            have v4 : ρ (.tmp 60) = .slice (some ⟨g, 0, none⟩) k k := (congrFun hρ (.tmp 60)).symm.trans ((HF.out.ev 4 rfl d4).trans (HVA.out 4 _ (by rw [HVV.out]; rfl) d4))
            have v5 : ρ (.tmp 61) = .int .i64 (y : Nat) := (congrFun hρ (.tmp 61)).symm.trans ((HF.out.ev 5 rfl d5).trans (HVA.out 5 _ (by rw [HVV.out]; rfl) d5))
            rw [if_pos (by simp [Region.wanted])]
            unfold Oper.wp
            rw [hρ]
            clear hρ
            go_simp
            exact hK.out _ _ ⟨HVA.out.set (i := 6) (by rw [HVV.out]; rfl), (by exact h9)⟩
           focus
            obtain ⟨d6, _⟩ := hd
            obtain ⟨ρ, hρ⟩ : ∃ ρ, a'.eval = ρ := ⟨_, rfl⟩
            have hcst : ∀ v, ρ (.const v) = v := fun v => (congrFun hρ (.const v)).symm
            have v6 : ρ (.tmp 62) = .pointer (some ⟨g, y, none⟩) := (congrFun hρ (.tmp 62)).symm.trans ((HF.out.ev 6 rfl d6).trans (HVA.out 6 _ (by rw [HVV.out]; rfl) d6))
            have e13 : L 13 = false := by
             cases e : L 13 with
             | false => rfl
             | true => have := (h9.2.2.2.2.1 e).1; rw [HLI.out] at this; cases this
            have m0 := ((h9.1 e13).cell (y)).trans HCK.out
            rw [if_pos (by simp [Region.wanted])]
            unfold Oper.wp
            rw [hρ]
            clear hρ
            go_simp
            exact hK.out _ _ ⟨HVA.out.set (i := 7) (by rw [HVV.out]; rfl), ⟨h9.1, h9.2.1, h9.2.2.1, h9.2.2.2.1, (fun e => ⟨rfl, (h9.2.2.2.2.1 e).2⟩), h9.2.2.2.2.2⟩⟩
           focus
            clear hd
            obtain ⟨ρ, hρ⟩ : ∃ ρ, a'.eval = ρ := ⟨_, rfl⟩
            have hcst : ∀ v, ρ (.const v) = v := fun v => (congrFun hρ (.const v)).symm
            have l3 : ρ (.tmp 3) = .slice (some ⟨g, 0, none⟩) k k := (congrFun hρ (.tmp 3)).symm.trans (HF.out.lo 3 rfl)
            rw [if_pos (by simp [Region.wanted])]
            unfold Oper.wp
            rw [hρ]
            clear hρ
            go_simp
            exact hK.out _ _ ⟨HVA.out.set (i := 8) (by rw [HVV.out]; rfl), (by exact h9)⟩
           focus
            clear hd
            obtain ⟨ρ, hρ⟩ : ∃ ρ, a'.eval = ρ := ⟨_, rfl⟩
            have hcst : ∀ v, ρ (.const v) = v := fun v => (congrFun hρ (.const v)).symm
            have l5 : ρ (.tmp 5) = .int .i64 (i : Nat) := (congrFun hρ (.tmp 5)).symm.trans (HF.out.lo 5 rfl)
            rw [if_pos (by simp [Region.wanted])]
            unfold Oper.wp
            rw [hρ]
            clear hρ
            go_simp
            exact hK.out _ _ ⟨HVA.out.set (i := 9) (by rw [HVV.out]; rfl), (by exact h9)⟩
           focus
            obtain ⟨d8, d9, _⟩ := hd
            obtain ⟨ρ, hρ⟩ : ∃ ρ, a'.eval = ρ := ⟨_, rfl⟩
            have hcst : ∀ v, ρ (.const v) = v := fun v => (congrFun hρ (.const v)).symm
            have v8 : ρ (.tmp 64) = .slice (some ⟨g, 0, none⟩) k k := (congrFun hρ (.tmp 64)).symm.trans ((HF.out.ev 8 rfl d8).trans (HVA.out 8 _ (by rw [HVV.out]; rfl) d8))
            have v9 : ρ (.tmp 65) = .int .i64 (i : Nat) := (congrFun hρ (.tmp 65)).symm.trans ((HF.out.ev 9 rfl d9).trans (HVA.out 9 _ (by rw [HVV.out]; rfl) d9))
            rw [if_pos (by simp [Region.wanted])]
            unfold Oper.wp
            rw [hρ]
            clear hρ
            go_simp
            exact hK.out _ _ ⟨HVA.out.set (i := 10) (by rw [HVV.out]; rfl), (by exact h9)⟩
           focus
            obtain ⟨d10, _⟩ := hd
            obtain ⟨ρ, hρ⟩ : ∃ ρ, a'.eval = ρ := ⟨_, rfl⟩
            have hcst : ∀ v, ρ (.const v) = v := fun v => (congrFun hρ (.const v)).symm
            have v10 : ρ (.tmp 66) = .pointer (some ⟨g, i, none⟩) := (congrFun hρ (.tmp 66)).symm.trans ((HF.out.ev 10 rfl d10).trans (HVA.out 10 _ (by rw [HVV.out]; rfl) d10))
            have e13 : L 13 = false := by
             cases e : L 13 with
             | false => rfl
             | true => have := (h9.2.2.2.2.1 e).2; rw [HLI.out] at this; cases this
            have m0 := ((h9.1 e13).cell (i)).trans HCI.out
            rw [if_pos (by simp [Region.wanted])]
            unfold Oper.wp
            rw [hρ]
            clear hρ
            go_simp
            exact hK.out _ _ ⟨HVA.out.set (i := 11) (by rw [HVV.out]; rfl), ⟨h9.1, h9.2.1, h9.2.2.1, h9.2.2.2.1, (fun e => ⟨(h9.2.2.2.2.1 e).1, rfl⟩), h9.2.2.2.2.2⟩⟩
           focus
            obtain ⟨d0, d1, _, _, d4, d5, d6, d7, d11, _⟩ := hd
            obtain ⟨ρ, hρ⟩ : ∃ ρ, a'.eval = ρ := ⟨_, rfl⟩
            have hcst : ∀ v, ρ (.const v) = v := fun v => (congrFun hρ (.const v)).symm
            have v0 : ρ (.tmp 56) = .slice (some ⟨g, 0, none⟩) k k := (congrFun hρ (.tmp 56)).symm.trans ((HF.out.ev 0 rfl d0).trans (HVA.out 0 _ (by rw [HVV.out]; rfl) d0))
            have v1 : ρ (.tmp 57) = .int .i64 (i : Nat) := (congrFun hρ (.tmp 57)).symm.trans ((HF.out.ev 1 rfl d1).trans (HVA.out 1 _ (by rw [HVV.out]; rfl) d1))
            rw [if_pos (by simp [Region.wanted])]
            unfold Oper.wp
            rw [hρ]
            clear hρ
            go_simp
            exact hK.out _ _ ⟨HVA.out.set (i := 12) (by rw [HVV.out]; rfl), (by exact h9)⟩
           focus
            obtain ⟨d12, d7, d0, d1, d4, d5, d6, _, d11, _⟩ := hd
            obtain ⟨ρ, hρ⟩ : ∃ ρ, a'.eval = ρ := ⟨_, rfl⟩
            have hcst : ∀ v, ρ (.const v) = v := fun v => (congrFun hρ (.const v)).symm
            have v12 : ρ (.tmp 68) = .pointer (some ⟨g, i, none⟩) := (congrFun hρ (.tmp 68)).symm.trans ((HF.out.ev 12 rfl d12).trans (HVA.out 12 _ (by rw [HVV.out]; rfl) d12))
            have v7 : ρ (.tmp 63) = .int .i64 xk := (congrFun hρ (.tmp 63)).symm.trans ((HF.out.ev 7 rfl d7).trans (HVA.out 7 _ (by rw [HVV.out]; rfl) d7))
            rw [if_pos (by simp [Region.wanted])]
            unfold Oper.wp
            rw [hρ]
            clear hρ
            have e15 : L 15 = false := by
             cases e : L 15 with
             | false => rfl
             | true => have := h9.2.2.2.2.2 e; rw [HLI.out] at this; cases this
            have hcc := h9.1 HLI.out
            have fz := hcc.free (i)
            have m0 := (hcc.cell (i)).trans HCI.out
            have HST := Lib.hid (hcc.set (i) (.int .i64 xk))
            have HGG := Lib.hid (grown_trans h9.2.2.2.1 (grown_setCell w' ⟨g, i, none⟩ (.int .i64 xk)))
            clear hcc
            go_simp
            exact hK.out undef _ ⟨HVA.out.free (i := 13) (by rw [HVV.out]; rfl) _, (fun e => by cases e), (fun _ _ => HST.out), (fun e => by have e' : L 15 = true := e; rw [e15] at e'; cases e'), HGG.out, (fun _ => ⟨d7, d11⟩), (fun _ => rfl)⟩
           focus
            obtain ⟨d2, d3, d0, d1, _, _, d4, d5, d6, d7, d8, d9, d10, d11, d12, d13, _⟩ := hd
            obtain ⟨ρ, hρ⟩ : ∃ ρ, a'.eval = ρ := ⟨_, rfl⟩
            have hcst : ∀ v, ρ (.const v) = v := fun v => (congrFun hρ (.const v)).symm
            have v2 : ρ (.tmp 58) = .slice (some ⟨g, 0, none⟩) k k := (congrFun hρ (.tmp 58)).symm.trans ((HF.out.ev 2 rfl d2).trans (HVA.out 2 _ (by rw [HVV.out]; rfl) d2))
            have v3 : ρ (.tmp 59) = .int .i64 (y : Nat) := (congrFun hρ (.tmp 59)).symm.trans ((HF.out.ev 3 rfl d3).trans (HVA.out 3 _ (by rw [HVV.out]; rfl) d3))
            rw [if_pos (by simp [Region.wanted])]
            unfold Oper.wp
            rw [hρ]
            clear hρ
            go_simp
            exact hK.out _ _ ⟨HVA.out.set (i := 14) (by rw [HVV.out]; rfl), (by exact h9)⟩
           focus
            obtain ⟨d14, d11, d13, d0, d1, d2, d3, d4, d5, d6, d7, d8, d9, d10, _, d12, _, _⟩ := hd
            obtain ⟨ρ, hρ⟩ : ∃ ρ, a'.eval = ρ := ⟨_, rfl⟩
            have hcst : ∀ v, ρ (.const v) = v := fun v => (congrFun hρ (.const v)).symm
            have v14 : ρ (.tmp 69) = .pointer (some ⟨g, y, none⟩) := (congrFun hρ (.tmp 69)).symm.trans ((HF.out.ev 14 rfl d14).trans (HVA.out 14 _ (by rw [HVV.out]; rfl) d14))
            have v11 : ρ (.tmp 67) = .int .i64 xi := (congrFun hρ (.tmp 67)).symm.trans ((HF.out.ev 11 rfl d11).trans (HVA.out 11 _ (by rw [HVV.out]; rfl) d11))
            rw [if_pos (by simp [Region.wanted])]
            unfold Oper.wp
            rw [hρ]
            clear hρ
            have hcc := h9.2.1 d13 HLI.out
            have fz := hcc.free (y)
            have HIS := Lib.hid (some_in (i := y) (hcc.lt' (y) (by simp; exact HLK.out)))
            obtain ⟨yy, hyy⟩ := HIS.out
            have m0 := hyy
            have HST := Lib.hid (hcc.set (y) (.int .i64 xi))
            have HGG := Lib.hid (grown_trans h9.2.2.2.1 (grown_setCell w' ⟨g, y, none⟩ (.int .i64 xi)))
            clear hcc hyy
            go_simp
            exact hK.out undef _ ⟨HVA.out.free (i := 15) (by rw [HVV.out]; rfl) _, (fun e => by have e' : L 13 = false := e; rw [d13] at e'; cases e'), (fun _ e => by cases e), (fun _ => HST.out), HGG.out, (fun _ => ⟨d7, d11⟩), (fun _ => d13)⟩
          focus
           intro L w' xs hL hJ
           obtain ⟨hv, h9⟩ := hJ
           have e0 : xs 0 = .slice (some ⟨g, 0, none⟩) k k := hv 0 _ (by rw [HVV.out]; rfl) (hL 0 (by decide))
           have e1 : xs 1 = .int .i64 (i : Nat) := hv 1 _ (by rw [HVV.out]; rfl) (hL 1 (by decide))
           have e2 : xs 2 = .slice (some ⟨g, 0, none⟩) k k := hv 2 _ (by rw [HVV.out]; rfl) (hL 2 (by decide))
           have e3 : xs 3 = .int .i64 (y : Nat) := hv 3 _ (by rw [HVV.out]; rfl) (hL 3 (by decide))
           have e4 : xs 4 = .slice (some ⟨g, 0, none⟩) k k := hv 4 _ (by rw [HVV.out]; rfl) (hL 4 (by decide))
           have e5 : xs 5 = .int .i64 (y : Nat) := hv 5 _ (by rw [HVV.out]; rfl) (hL 5 (by decide))
           have e6 : xs 6 = .pointer (some ⟨g, y, none⟩) := hv 6 _ (by rw [HVV.out]; rfl) (hL 6 (by decide))
           have e7 : xs 7 = .int .i64 xk := hv 7 _ (by rw [HVV.out]; rfl) (hL 7 (by decide))
           have e8 : xs 8 = .slice (some ⟨g, 0, none⟩) k k := hv 8 _ (by rw [HVV.out]; rfl) (hL 8 (by decide))
           have e9 : xs 9 = .int .i64 (i : Nat) := hv 9 _ (by rw [HVV.out]; rfl) (hL 9 (by decide))
           have e10 : xs 10 = .pointer (some ⟨g, i, none⟩) := hv 10 _ (by rw [HVV.out]; rfl) (hL 10 (by decide))
           have e11 : xs 11 = .int .i64 xi := hv 11 _ (by rw [HVV.out]; rfl) (hL 11 (by decide))
           have e12 : xs 12 = .pointer (some ⟨g, i, none⟩) := hv 12 _ (by rw [HVV.out]; rfl) (hL 12 (by decide))
           have e14 : xs 14 = .pointer (some ⟨g, y, none⟩) := hv 14 _ (by rw [HVV.out]; rfl) (hL 14 (by decide))
           simp only [putGo, Act.put, List.setIfInBounds_toArray, List.set_cons_zero, List.set_cons_succ, e0, e1, e2, e3, e4, e5, e6, e7, e8, e9, e10, e11, e12, e14]
           clear hv e0 e1 e2 e3 e4 e5 e6 e7 e8 e9 e10 e11 e12 e14
          have HG9 := Lib.hid h9.2.2.2.1
          have HC9 : Hid (CellsN w' g (intsA (swapI p i y))) := Lib.hid (by rw [← HSW.out]; exact h9.2.2.1 (hL 15 (by decide)))
          clear h9 hL
          have HBX9 : Hid (Box w' bn #[.int .i64 (k : Int)]) := Lib.hid ((HBX5.out.ext HWB.out).grown HG9.out (fun e => hbg (by simpa using e)))
          have HRV := Lib.hid (reverse_any w' g (i + 1) (k - (i + 1)) (k - (i + 1)) (swapI p i y) HC9.out (by rw [swap_len, HPL.out]; omega) (by rw [swap_len, HPL.out]; omega) (Nat.le_refl _) (by omega))
          go_wp2
          gi_wp2_with (refine ⟨trivial, ?_⟩; gi_at_call 58; refine (callsIn_wide.2 HRV.out).mono ?_; rintro e w8 ⟨⟨v8, rfl⟩, hc8, hg8⟩; have HC8 := Lib.hid hc8; have HG8 := Lib.hid hg8; clear hc8 hg8)
          have hj1 : j + 1 < (permsL k).length := HNX.out.1.1 (by rw [HUE.out]; omega)
          have hrow : rowAt (permsL k) (j + 1) = (swapI p i y).take (i + 1) ++ ((swapI p i y).drop (i + 1)).reverse := by
           rw [HNX.out.2 hj1]
           unfold nextL
           rw [HPL.out, HUE.out]
           simp only [Nat.add_sub_cancel]
           rw [HXI.out, HGY.out]
          have hc9 : CellsN w8 g (intsA (rowAt (permsL k) (j + 1))) := by rw [hrow]; exact HC8.out
          have htg : ∀ (A B : World), A.grownBy B (some g) → Turned (fun q => W.heap.size ≤ q ∧ q < W.heap.size + 1) A B := fun A B h => Turned.of_grown h (fun q e => by
           have e2 : g = q := by simpa using e
           omega)
          have hch := ((((Turned.of_below (X := fun q => W.heap.size ≤ q ∧ q < W.heap.size + 1) HBU.out).trans (Turned.of_below HBV.out)).trans (Turned.of_below HWB.out)).trans (htg _ _ HG9.out)).trans (htg _ _ HG8.out)
          refine ⟨⟨j + 1, hj1, hc9, HJ.out _ _ _ _ (by omega) HJ4.out hch, HBX9.out.grown HG8.out (fun e => hbg (by simpa using e)), by have := hch.size; have := HZ4.out; omega⟩, ?_⟩
          rw [permLeft_at hj1 hc9, HML.out]
          omega
    ·clear hy h1
     gi_wp2
     go_end0
     exact ⟨⟨_, rfl⟩, W.heap.size + 1, by omega, Nat.le_trans HZ5.out ht.size, .inr ⟨j, hj, hJx'⟩⟩
end Go.Proofs.Yteiaeaciaglmgaa
set_option linter.unusedVariables false
set_option linter.unusedSimpArgs false
set_option linter.unusedSectionVars false
namespace Go.Proofs.Yteiaeaciaglmgaa
open Go.RowKit
def WayV (P : Nat → Prop) (C : Nat) (w : World) (v : Value) (rows : List (List Int)) (vals : List Value) : Prop :=
 w.ownsRow C 25 1 v rows.length vals ∧ vals.length = rows.length ∧ rows.length ≤ 2001 ∧ ∀ j, j < rows.length → IsIntsX (fun q => P q ∧ v.ownBlock ≠ some q) w (valAt vals j) (rowAt rows j)
def WayAt (P : Nat → Prop) (C : Nat) (w : World) (v : Value) (rows : List (List Int)) : Prop := ∃ vals, WayV P C w v rows vals
section
variable {P : Nat → Prop} {C : Nat} {w w' : World} {v : Value} {rows : List (List Int)} {vals : List Value}
theorem WayV.nil : WayV P C w (.slice none 0 0) [] [] := ⟨World.ownsRow_nil _ _ _ _, rfl, by simp, fun j hj => by simp at hj⟩
theorem WayV.lt (h : WayV P C w v rows vals) : ∀ q, v.ownBlock = some q → C ≤ q ∧ q < w.heap.size := h.1.lt
theorem WayV.form (h : WayV P C w v rows vals) : (v = .slice none 0 0 ∧ rows = []) ∨ ∃ g cap, v = .slice (some ⟨g, 0, none⟩) rows.length cap ∧ rows.length ≤ cap ∧ cap ≤ maxLen := by
 obtain ⟨⟨_, h1⟩, h2, h3, h4⟩ := h
 rcases h1 with ⟨rfl, hn⟩ | ⟨g, cap, cur, rfl, _, _, h5, h6, _⟩
 ·exact .inl ⟨rfl, List.length_eq_zero_iff.1 hn⟩
 ·exact .inr ⟨g, cap, rfl, h5, h6⟩
theorem WayV.turned {X : Nat → Prop} (h : WayV P C w v rows vals) (ht : Turned X w w') (hX : ∀ q, P q → ¬ v.ownBlock = some q → ¬ X q) (hv : ∀ q, v.ownBlock = some q → ¬ X q) : WayV P C w' v rows vals := by
 obtain ⟨⟨k1, h1⟩, h2, h3, h4⟩ := h
 refine ⟨⟨k1, ?_⟩, h2, h3, fun j hj => (h4 j hj).turned ht (fun k hk => hX k hk.1 hk.2)⟩
 rcases h1 with h1 | ⟨g, cap, cur, rfl, hb, hh, rest⟩
 ·exact .inl h1
 ·exact .inr ⟨g, cap, cur, rfl, hb, (ht.block g (Array.getElem?_eq_some_iff.1 hh).1 (hv g rfl)).trans hh, rest⟩
theorem WayV.ext (h : WayV P C w v rows vals) (hb : Below w.heap.size w w') : WayV P C w' v rows vals :=
 h.turned (X := fun _ => False) ⟨hb.os, hb.tape, hb.output, hb.size, fun k hk _ => hb.block k hk⟩ (fun _ _ _ e => e) (fun _ _ e => e)
theorem WayV.mono {P' : Nat → Prop} (h : WayV P C w v rows vals) (hP : ∀ q, P q → q < w.heap.size → P' q) : WayV P' C w v rows vals :=
 ⟨h.1, h.2.1, h.2.2.1, fun j hj => (h.2.2.2 j hj).old (fun q hq hz => ⟨hP q hq.1 hz, hq.2⟩)⟩
theorem WayV.take {a : Option Addr} {n cap k : Nat} (h : WayV P C w (.slice a n cap) rows vals) (hk : k ≤ rows.length) : WayV P C w (.slice a k cap) (rows.take k) (vals.take k) := by
 obtain ⟨⟨k1, h1⟩, h2, h3, h4⟩ := h
 have hl : (rows.take k).length = k := by rw [List.length_take]; omega
 refine ⟨⟨by rw [hl, List.length_take]; omega, ?_⟩, by rw [hl, List.length_take]; omega, by omega, fun j hj => ?_⟩
 ·rcases h1 with ⟨e, hn⟩ | ⟨g, cap', cur, e, hb, hh, hc1, hc2, hc3, hc4⟩
  ·cases e
   exact .inl ⟨by rw [show k = 0 by omega], by omega⟩
  ·cases e
   refine .inr ⟨g, cap, cur, by rw [hl], hb, hh, by omega, hc2, hc3, ?_⟩
   rw [hl, ← hc4, List.take_take]
   congr 1
   omega
 ·rw [hl] at hj
  have e1 : valAt (vals.take k) j = valAt vals j := by
   unfold valAt
   rw [List.getD_eq_getElem?_getD, List.getD_eq_getElem?_getD, List.getElem?_take, if_pos hj]
  have e2 : rowAt (rows.take k) j = rowAt rows j := by
   unfold rowAt
   rw [List.getD_eq_getElem?_getD, List.getD_eq_getElem?_getD, List.getElem?_take, if_pos hj]
  have e3 : (Value.slice a k cap).ownBlock = (Value.slice a n cap).ownBlock := by cases a <;> rfl
  rw [e1, e2, e3]
  exact h4 j (by omega)
theorem run_append_way {b : Nat} {r : Value} {row : List Int} {oty : TypeId} (h : WayV P C w v rows vals) (hr : w.cell? ⟨b, 0, none⟩ = some r) (hrow : IsIntsX (fun q => P q ∧ v.ownBlock ≠ some q) w r row) (hlen : rows.length ≤ 2000) (hC : C ≤ w.heap.size) :
  ∃ v' w', (Builtin.append_ #[26, 26] oty #[v, .slice (some ⟨b, 0, none⟩) 1 1]).run Try.prog w = .ok v' w' ∧ WayV P C w' v' (rows ++ [row]) (vals ++ [r]) ∧ w.grownBy w' v.ownBlock ∧ (v'.ownBlock = v.ownBlock ∨ v'.ownBlock = some w.heap.size) := by
 obtain ⟨i0, hi, hz0, hz1, hz2⟩ := info_parts ints_info
 obtain ⟨o1, o2, o3, o4⟩ := h
 have hs : Src w 1 (.slice (some ⟨b, 0, none⟩) 1 1) 1 [r] := src_one hr (by
  obtain ⟨_, _, c, ⟨a, e, _⟩, _⟩ := hrow
  rw [e]; rfl)
 obtain ⟨v', w', h1, h2, h3, h4⟩ := run_append_gen (P := Try.prog) w C 26 oty 25 i0 _ 1 24 Try.underlying26 hi hz0 hz1 hz2 rfl (by decide) v rows.length _ o1 _ 1 _ hs (by unfold maxLen; omega) (by omega) hC
 have hne : ∀ q, q < w.heap.size → v.ownBlock ≠ some q → v'.ownBlock ≠ some q := fun q q2 q3 he => by
  rcases h4 with h4 | h4
  ·exact q3 (h4.symm.trans he)
  ·rw [h4] at he
   injection he with he
   omega
 have hkeep : ∀ u xs, IsIntsX (fun q => P q ∧ v.ownBlock ≠ some q) w u xs → IsIntsX (fun q => P q ∧ v'.ownBlock ≠ some q) w' u xs := by
  rintro u xs ⟨b', off', cap', g1, g2, g3, g4⟩
  refine ⟨b', off', cap', g1, g2, g3, fun i hi => ?_⟩
  obtain ⟨⟨x1, x2⟩, x3, x4⟩ := g4 i hi
  exact ⟨⟨x1, hne _ x3 x2⟩, Nat.lt_of_lt_of_le x3 h3.size, (World.cell?_of_block (a := ⟨b', off' + i, none⟩) (h3.block b' x3 (fun e => x2 e.symm))).trans x4⟩
 refine ⟨v', w', h1, ⟨by simpa using h2, by simp [o2], by simp; omega, fun j hj => ?_⟩, h3, h4⟩
 by_cases e : j < rows.length
 ·have e1 : valAt (vals ++ [r]) j = valAt vals j := by
   unfold valAt
   rw [List.getD_eq_getElem?_getD, List.getD_eq_getElem?_getD, List.getElem?_append_left (by omega)]
  rw [e1, rowAt_app, if_pos e]
  exact hkeep _ _ (o4 j e)
 ·obtain rfl : j = rows.length := by simp at hj; omega
  have e1 : valAt (vals ++ [r]) rows.length = r := by
   unfold valAt
   rw [List.getD_eq_getElem?_getD, List.getElem?_append_right (by omega), o2]
   simp
  rw [e1, rowAt_app, if_neg (by omega), if_pos rfl]
  exact hkeep _ _ hrow
theorem WayAt.isMat (h : WayAt P C w v rows) : IsMat w.heap.size w v rows := by
 obtain ⟨vals, ⟨hl, h1⟩, h2, h3, h4⟩ := h
 rcases h1 with ⟨rfl, hn⟩ | ⟨g, cap, cur, rfl, hb, hg, hnc, hcm, hcs, htk⟩
 ·refine ⟨0, 0, 0, ⟨none, by rw [hn], by omega, by omega, .inr hn⟩, by omega, fun j hj => by omega⟩
 ·refine ⟨g, 0, cap, ⟨_, rfl, hnc, by unfold maxLen at hcm; omega, .inl rfl⟩, by omega, fun j hj => ?_⟩
  refine ⟨valAt vals j, ⟨(Array.getElem?_eq_some_iff.1 hg).1, ?_⟩, (h4 j hj).ints⟩
  simp only [World.cell?, hg, Nat.zero_add]
  have : (cur.toList.take (rows.length * 1))[j]? = vals[j]? := by rw [htk]
  rw [List.getElem?_take, if_pos (by omega), List.getElem?_eq_getElem (show j < vals.length by omega)] at this
  unfold valAt
  rw [List.getD_eq_getElem?_getD, List.getElem?_eq_getElem (show j < vals.length by omega)]
  simpa using this
end
/-- a list of numbers of one's own lies in no list of lists -/
theorem OwnInts.apartW {P : Nat → Prop} {B C : Nat} {w : World} {r v : Value} {xs : List Int} {rows : List (List Int)} {vals : List Value} (h : OwnInts B w r xs) (h' : WayV P C w v rows vals) : ∀ q, r.ownBlock = some q → v.ownBlock ≠ some q := by
 intro q hq hv
 obtain ⟨h1, _⟩ := h'
 rcases h.apart h1 with h2 | h2
 ·rw [hq] at h2; cases h2
 ·exact h2 (hq.trans hv.symm)
theorem reach_end {f : Flow} (hl : lotsB f f.lots.length = true) (h0 : 0 ≤ f.senders) : ∀ {m : Nat}, m ≤ f.lots.length → ∀ {s e : Int}, 0 ≤ s → s < beforeI f f.lots.length → goneB f s (f.lots.length - m) = false → rTo f m s e = true → e ∈ endsL f
 | 0, _, s, e, h1, h2, h3, h4 => by
  have : s = e := by simpa [rTo] using h4
  subst this
  rw [Nat.sub_zero] at h3
  exact (endsTo_mem f s _).2 ⟨h1, by omega, h3⟩
 | m + 1, hm, s, e, h1, h2, h3, h4 => by
  obtain ⟨k, hk⟩ : ∃ k, f.lots.length - (m + 1) = k := ⟨_, rfl⟩
  have hk1 : f.lots.length - m = k + 1 := by omega
  have hkl : k < f.lots.length := by omega
  have hb0 : 0 ≤ beforeI f k := by have := beforeI_mono (f := f) (Nat.zero_le k); simp only [beforeI] at this; omega
  rw [hk] at h3
  simp only [rTo, hk] at h4
  have hmono := beforeI_mono (f := f) (show k + 1 ≤ f.lots.length by omega)
  simp only [beforeI] at hmono
  have hout : ∀ p : Int, 0 ≤ p → p < (lotAt f.lots k).ins.length → rTo f m (beforeI f k + p) e = true → e ∈ endsL f := fun p p1 p2 h => by
   refine reach_end hl h0 (by omega) (s := beforeI f k + p) (by omega) (by omega) ?_ h
   rw [hk1]
   have hgo : ∀ j, j ≤ k + 1 → goneB f (beforeI f k + p) j = false := fun j => by
    induction j with
    | zero => intro _; rfl
    | succ j ih =>
     intro hj
     simp only [goneB, ih (by omega), Bool.false_or]
     exact not_in hl (k := k) (by omega) (by omega) (by omega)
   exact hgo _ (Nat.le_refl _)
  by_cases hh : hasB (lotAt f.lots k).ins s = true
  ·rw [if_pos hh] at h4
   have hi : (lotAt f.lots k).ins.idxOf s < (lotAt f.lots k).ins.length := List.idxOf_lt_length_of_mem (hasB_mem.1 hh)
   by_cases hkn : (lotAt f.lots k).known = true
   ·rw [if_pos hkn] at h4
    have hp := permB_parts ((lotB_parts (lotsB_lot hl hkl)).2.2.2.1 hkn)
    have hpi := hp.1 _ (nth_mem (l := (lotAt f.lots k).perm) (k := (lotAt f.lots k).ins.idxOf s) (by rw [hp.2.1]; exact hi))
    exact hout _ hpi.1 hpi.2 h4
   ·rw [if_neg hkn] at h4
    obtain ⟨i, i1, i2⟩ := anyN_iff.1 h4
    exact hout _ (by omega) (by omega) i2
  ·rw [if_neg hh] at h4
   refine reach_end hl h0 (by omega) h1 h2 ?_ h4
   rw [hk1]
   simp only [goneB, h3, Bool.false_or]
   simpa using hh
theorem lead_rAt {f : Flow} (hc : checkE f = 0) {s e : Int} (h1 : 0 ≤ s) (h2 : s < beforeI f f.lots.length) : leadE f s e = rAt f 0 s e := by
 obtain ⟨h0, _, _, _, hl⟩ := checkE_ok hc
 unfold leadE
 cases h : rAt f 0 s e with
 | false => rw [Bool.and_false]
 | true =>
  have : e ∈ endsL f := reach_end hl h0 (Nat.le_refl _) h1 h2 (by rw [Nat.sub_self]; rfl) h
  rw [hasB_iff.2 this]
  rfl
def posL (f : Flow) (w : List (List Int)) (k : Nat) : List Int := (List.range f.senders.toNat).map (posW f w k)
/-- the ends that the letters at the inputs of lot k are to reach -/
def endIn (f : Flow) (a : List Int) (w : List (List Int)) (k r : Nat) : Int := nth a ((posL f w k).idxOf (nth (lotAt f.lots k).ins r))
section
variable {f : Flow} {a : List Int} {w : List (List Int)} {k : Nat} (hc : checkE f = 0) (hk : k < f.lots.length) (ho : WayOk f w k)
include hc hk ho
theorem end_in {r : Nat} (hr : r < (lotAt f.lots k).ins.length) : ∃ t, t < f.senders.toNat ∧ posW f w k t = nth (lotAt f.lots k).ins r ∧ endIn f a w k r = nth a t := by
 obtain ⟨h0, _, _, _, hl⟩ := checkE_ok hc
 have hlk := lotsB_le hl (show k ≤ f.lots.length by omega)
 have hin := (lotB_parts (lotsB_lot hl hk)).2.2.1 _ (nth_mem hr)
 obtain ⟨t, ht, e⟩ := pos_hit h0 (by omega) hlk ho hin.1 hin.2.1 hin.2.2
 have hm : nth (lotAt f.lots k).ins r ∈ posL f w k := by rw [← e]; exact List.mem_map.2 ⟨t, List.mem_range.2 ht, rfl⟩
 have hi := nth_idx hm
 have hil : (posL f w k).idxOf (nth (lotAt f.lots k).ins r) < f.senders.toNat := by simpa [posL] using hi.1
 refine ⟨_, hil, ?_, rfl⟩
 have h2 := hi.2
 rw [nth_lt hi.1] at h2
 have h3 : (posL f w k)[(posL f w k).idxOf (nth (lotAt f.lots k).ins r)]'hi.1 = posW f w k ((posL f w k).idxOf (nth (lotAt f.lots k).ins r)) := by simp only [posL, List.getElem_map, List.getElem_range]
 exact h3.symm.trans h2
theorem end_at {r t : Nat} (hr : r < (lotAt f.lots k).ins.length) (ht : t < f.senders.toNat) (e : posW f w k t = nth (lotAt f.lots k).ins r) : endIn f a w k r = nth a t := by
 obtain ⟨h0, _, _, _, hl⟩ := checkE_ok hc
 obtain ⟨t', ht', e', h⟩ := end_in (a := a) hc hk ho hr
 rw [h, pos_inj h0 (by omega) (lotsB_le hl (show k ≤ f.lots.length by omega)) ho ht' ht (e'.trans e.symm)]
end
/-- the map of ends while the outputs of lot k are filled in -/
def outM (f : Flow) (a : List Int) (w : List (List Int)) (k : Nat) (p : List Int) (al : AL) : Nat → AL
 | 0 => al
 | q + 1 => aset (outM f a w k p al q) (beforeI f k + nth p q) (.int .i64 (endIn f a w k q))
/-- do the outputs lead to the ends? -/
def fitN (f : Flow) (a : List Int) (w : List (List Int)) (k : Nat) (p : List Int) (q : Nat) : Bool := allN (fun r => leadE f (beforeI f k + nth p r) (endIn f a w k r)) q
/-- at the spots of the letters behind k lots the map has their ends -/
def EndsAt (f : Flow) (a : List Int) (w : List (List Int)) (k : Nat) (al : AL) : Prop := ∀ t, t < f.senders.toNat → alook al (posW f w k t) = some (.int .i64 (nth a t))
theorem out_low {f : Flow} {a : List Int} {w : List (List Int)} {k : Nat} {p : List Int} {al : AL} {x : Int} (hx : x < beforeI f k) (hp : ∀ y ∈ p, 0 ≤ y) : ∀ {q}, q ≤ p.length → alook (outM f a w k p al q) x = alook al x
 | 0, _ => rfl
 | q + 1, hq => by
  simp only [outM]
  have := hp _ (nth_mem (l := p) (k := q) (by omega))
  rw [alook_aset, if_neg (by omega), out_low hx hp (by omega)]
theorem out_at {f : Flow} {a : List Int} {w : List (List Int)} {k : Nat} {p : List Int} {al : AL} (hn : p.Nodup) : ∀ {q r}, q ≤ p.length → r < q → alook (outM f a w k p al q) (beforeI f k + nth p r) = some (.int .i64 (endIn f a w k r))
 | q + 1, r, hq, hr => by
  simp only [outM]
  rw [alook_aset]
  by_cases e : r = q
  ·subst e; rw [if_pos rfl]
  ·have hne : nth p r ≠ nth p q := fun e2 => e (nth_inj hn (by omega) (by omega) e2)
   rw [if_neg (by omega), out_at hn (by omega) (by omega)]
section
variable {f : Flow} {a : List Int} {w : List (List Int)} {k : Nat} {p : List Int} (hc : checkE f = 0) (hk : k < f.lots.length) (hw : w.length = k) (ho : WayOk f w k) (hp : p ∈ permsOf (lotAt f.lots k))
include hc hk hw ho hp
theorem pos_snoc (t : Nat) : posW f (w ++ [p]) k t = posW f w k t := pos_same (by omega) (fun j hj => by rw [rowAt_app, if_pos (by omega)]) t
theorem pos_next (t : Nat) : posW f (w ++ [p]) (k + 1) t = if hasB (lotAt f.lots k).ins (posW f w k t) then beforeI f k + nth p ((lotAt f.lots k).ins.idxOf (posW f w k t)) else posW f w k t := by
 rw [pos_step hk, pos_snoc hc hk hw ho hp]
 have : rowAt (w ++ [p]) k = p := by rw [rowAt_app, if_neg (by omega), if_pos hw.symm]
 rw [this]
theorem ends_next {al : AL} (h : EndsAt f a w k al) : EndsAt f a (w ++ [p]) (k + 1) (outM f a w k p al (lotAt f.lots k).ins.length) := by
 obtain ⟨h0, _, _, _, hl⟩ := checkE_ok hc
 have hpp := permB_parts (permsOf_perm (lotsB_lot hl hk) hp)
 intro t ht
 rw [pos_next hc hk hw ho hp]
 by_cases hh : hasB (lotAt f.lots k).ins (posW f w k t) = true
 ·rw [if_pos hh]
  have hi := nth_idx (hasB_iff.1 hh)
  rw [out_at hpp.2.2 (by omega) hi.1]
  rw [end_at hc hk ho hi.1 ht hi.2.symm]
 ·rw [if_neg hh]
  have hlt := (pos_lt h0 (show k ≤ f.lots.length by omega) (lotsB_le hl (by omega)) ho ht).2.1
  rw [out_low hlt (fun y hy => (hpp.1 y hy).1) (by omega)]
  exact h t ht
theorem fits_good (hg : GoodAt f a w k) : fitN f a w k p (lotAt f.lots k).ins.length = true ↔ GoodAt f a (w ++ [p]) (k + 1) := by
 obtain ⟨h0, _, _, _, hl⟩ := checkE_ok hc
 have hpp := permB_parts (permsOf_perm (lotsB_lot hl hk) hp)
 have hg' : GoodAt f a (w ++ [p]) k := fun i hi => by rw [pos_snoc hc hk hw ho hp]; exact hg i hi
 have hb0 : 0 ≤ beforeI f k := by have := beforeI_mono (f := f) (Nat.zero_le k); simp only [beforeI] at this; omega
 have hmono := beforeI_mono (f := f) (show k + 1 ≤ f.lots.length by omega)
 simp only [beforeI] at hmono
 have hout : ∀ r, r < (lotAt f.lots k).ins.length → ∀ e, leadE f (beforeI f k + nth p r) e = rAt f (k + 1) (beforeI f k + nth p r) e := fun r hr e => by
  have := hpp.1 _ (nth_mem (l := p) (k := r) (by omega))
  rw [lead_rAt hc (by omega) (by omega), rAt_out hl hk (by omega)]
 rw [good_step hk hg']
 unfold fitN
 rw [allN_iff]
 constructor
 ·intro h i hi hh
  rw [pos_snoc hc hk hw ho hp] at hh
  rw [pos_next hc hk hw ho hp, if_pos hh]
  have hx := nth_idx (hasB_iff.1 hh)
  have h1 := h _ hx.1
  rw [hout _ hx.1, end_at hc hk ho hx.1 hi hx.2.symm] at h1
  exact h1
 ·intro h r hr
  obtain ⟨t, ht, e, e2⟩ := end_in (a := a) hc hk ho hr
  have h1 := h t ht (by rw [pos_snoc hc hk hw ho hp, e]; exact hasB_iff.2 (nth_mem hr))
  have hn := (lotB_parts (lotsB_lot hl hk)).2.1
  rw [pos_next hc hk hw ho hp, e, if_pos (hasB_iff.2 (nth_mem hr)), idxOf_nth hn hr] at h1
  rw [hout r hr, e2]
  exact h1
end
end Go.Proofs.Yteiaeaciaglmgaa
set_option linter.unusedVariables false
set_option linter.unusedSimpArgs false
namespace Go.Proofs.Yteiaeaciaglmgaa
open Go.RowKit
/-- the blocks of Make -/
structure EnvM where
 B : Nat
 C : Nat
 C0 : Nat
 D0 : Nat
 cx : Nat
 q0 : Nat
 ca : Nat
 bm : Nat
 cw : Nat
 cf : Nat
 vl : Value
 f : Flow
 a : List Int
structure EnvM.Ok (E : EnvM) : Prop where
 o1 : E.B ≤ E.cw
 o2 : E.cw < E.C0
 o3 : E.C0 ≤ E.D0
 x1 : E.D0 ≤ E.cx ∧ E.cx < E.C
 x2 : E.D0 ≤ E.ca ∧ E.ca < E.C
 x3 : E.D0 ≤ E.bm ∧ E.bm < E.C
 x4 : E.D0 ≤ E.cf ∧ E.cf < E.C
 ne : E.bm ≠ E.cx ∧ E.bm ≠ E.ca ∧ E.bm ≠ E.cf
def EnvM.P (E : EnvM) (q : Nat) : Prop := q < E.B ∨ E.C ≤ q
def EnvM.FV (E : EnvM) : Value := .func (.func 34) #[] #[.pointer (some ⟨E.cx, 0, none⟩), .pointer (some ⟨E.ca, 0, none⟩), .pointer (some ⟨E.cw, 0, none⟩), .pointer (some ⟨E.cf, 0, none⟩)]
/-- what the search keeps: the list begins with the way w of k lots, whose rows lie in blocks of K -/
structure FindS (E : EnvM) (K : Nat → Prop) (v : Value) (k : Nat) (ws : List Value) (w : List (List Int)) (W : World) : Prop where
 lots : LotsAt E.C0 E.D0 W E.q0 E.vl E.f
 flow : IsLots E.B W E.vl E.f.lots
 cx : Cell1 W E.cx (.pointer (some ⟨E.q0, 0, none⟩))
 ca : Cell1 W E.ca (.map (some E.bm))
 cf : Cell1 W E.cf E.FV
 cw : Cell1 W E.cw v
 way : ∃ a n cap, v = .slice a n cap ∧ (k ≤ n ∧ n ≤ cap) ∧ WayV K E.C W (.slice a k cap) w ws
 mp : ∃ al, IntMap W E.bm al ∧ EndsAt E.f E.a w k al
 sz : E.C ≤ W.heap.size
 nn : ∀ q, K q → E.P q ∧ q < W.heap.size
theorem FindS.own {E : EnvM} {K : Nat → Prop} {v : Value} {k : Nat} {ws : List Value} {w : List (List Int)} {W : World} (h : FindS E K v k ws w W) : ∀ q, v.ownBlock = some q → E.C ≤ q ∧ q < W.heap.size := by
 obtain ⟨a, n, cap, rfl, _, h2⟩ := h.way
 intro q e
 have e3 : (Value.slice a k cap).ownBlock = (Value.slice a n cap).ownBlock := by cases a <;> rfl
 exact h2.lt q (e3.trans e)
theorem FindS.turnedW {E : EnvM} (hE : E.Ok) {K : Nat → Prop} {v : Value} {k : Nat} {ws : List Value} {w : List (List Int)} {W W' : World} (h : FindS E K v k ws w W) {X : Nat → Prop} (ht : Turned X W W') (hX : ∀ q, q < E.C → q ≠ E.bm → ¬ X q) (hr : ∀ q, E.C ≤ q → K q → v.ownBlock ≠ some q → ¬ X q) (hv : ∀ q, v.ownBlock = some q → ¬ X q)
  {al : AL} (hm : IntMap W' E.bm al) (ha : EndsAt E.f E.a w k al) : FindS E K v k ws w W' := by
 have hx := hE.x1
 have hx2 := hE.x2
 have hx3 := hE.x3
 have hx4 := hE.x4
 have hn := hE.ne
 have h1 := hE.o1
 have h2 := hE.o2
 have h3 := hE.o3
 obtain ⟨a, n, cap, hve, hkn, hwv⟩ := h.way
 have e3 : (Value.slice a k cap).ownBlock = v.ownBlock := by rw [hve]; cases a <;> rfl
 exact ⟨h.lots.turned ht (fun q a b => hX q (by omega) (by omega)), h.flow.below (ht.below (B := E.B) (by have := h.sz; omega) (fun q hq => hX q (by omega) (by omega))) (Nat.le_refl _), h.cx.turned ht (hX _ (by omega) (fun e => hn.1 e.symm)), h.ca.turned ht (hX _ (by omega) (fun e => hn.2.1 e.symm)), h.cf.turned ht (hX _ (by omega) (fun e => hn.2.2 e.symm)), h.cw.turned ht (hX _ (by omega) (by omega)),
  ⟨a, n, cap, hve, hkn, hwv.turned ht (fun q hp hv' => by
   have hp1 := (h.nn q hp).1
   unfold EnvM.P at hp1
   rcases hp1 with hp1 | hp1
   ·exact hX q (by omega) (by omega)
   ·exact hr q hp1 hp (fun e => hv' (e3.trans e))) (fun q e => hv q (e3.symm.trans e))⟩, ⟨al, hm, ha⟩, Nat.le_trans h.sz ht.size, fun q hq => ⟨(h.nn q hq).1, Nat.lt_of_lt_of_le (h.nn q hq).2 ht.size⟩⟩
theorem FindS.keepM {E : EnvM} (hE : E.Ok) {K : Nat → Prop} {v : Value} {k : Nat} {ws : List Value} {w : List (List Int)} {W W' : World} (h : FindS E K v k ws w W) (ht : Turned (fun q => q = E.bm) W W')
  {al : AL} (hm : IntMap W' E.bm al) (ha : EndsAt E.f E.a w k al) : FindS E K v k ws w W' :=
 h.turnedW hE ht (fun q _ h => h) (fun q h1 _ _ e => by have := hE.x3; omega) (fun q e e2 => by have := (h.own q e).1; have := hE.x3; omega) hm ha
theorem FindS.ext {E : EnvM} (hE : E.Ok) {K : Nat → Prop} {v : Value} {k : Nat} {ws : List Value} {w : List (List Int)} {W W' : World} (h : FindS E K v k ws w W) (hb : Below W.heap.size W W') : FindS E K v k ws w W' := by
 obtain ⟨al, h1, h2⟩ := h.mp
 exact h.keepM hE ⟨hb.os, hb.tape, hb.output, hb.size, fun q hq _ => hb.block q hq⟩ (h1.ext hb) h2
def MapKeep (W W' : World) (bm : Nat) (b : Int) : Prop := ∀ al, IntMap W bm al → ∃ al', IntMap W' bm al' ∧ ∀ x, x < b → alook al' x = alook al x
/-- how the search for the rest of a way ends -/
def FPost (E : EnvM) (K S : Nat → Prop) (v : Value) (k : Nat) (ws : List Value) (w : List (List Int)) (W : World) (r : Option (List (List Int))) (e : Ending) (W' : World) : Prop :=
 e = .returned (.bool r.isSome) ∧ ∃ v', FindS E K v' k ws w W' ∧ MapKeep W W' E.bm (beforeI E.f k) ∧ Turned (fun q => q = E.bm ∨ q = E.cw ∨ v.ownBlock = some q) W W' ∧
  (∀ g, v'.ownBlock = some g → v.ownBlock = some g ∨ W.heap.size ≤ g) ∧ ∀ u, r = some u → WayAt (fun q => K q ∨ S q ∨ W.heap.size ≤ q) E.C W' v' u
/-- the contract of find for the lots from k on -/
def FindC (E : EnvM) (k : Nat) : Prop := ∀ (W : World) (K : Nat → Prop) (v : Value) (ws : List Value) (w : List (List Int)), FindS E K v k ws w W → (∃ a cap, v = .slice a k cap) → w.length = k → WayOk E.f w k → GoodAt E.f E.a w k →
 Calls Try.prog 34 #[.int .i64 (k : Int), .pointer (some ⟨E.cx, 0, none⟩), .pointer (some ⟨E.ca, 0, none⟩), .pointer (some ⟨E.cw, 0, none⟩), .pointer (some ⟨E.cf, 0, none⟩)] W (FPost E K (fun q => q < E.B) v k ws w W (findM E.f E.a (E.f.lots.length - k) w))
theorem append_wayA {ops : Array Oper} {rest : List Oper} {o : Oper} {act : Act} {w : World} {Q : Exit → Act → World → Prop} (hgd : o.guard = none) (s x : Operand)
  (ho : o.op = .call { callee := .builtin .append, args := #[s, x], argTypes := #[26, 26] }) {P : Nat → Prop} {C b : Nat} {v r : Value} {rows : List (List Int)} {vals : List Value} {row : List Int} (hs : act.eval s = v) (hx : act.eval x = .slice (some ⟨b, 0, none⟩) 1 1)
  (h : WayV P C w v rows vals) (hr : w.cell? ⟨b, 0, none⟩ = some r) (hrow : IsIntsX (fun q => P q ∧ v.ownBlock ≠ some q) w r row) (hlen : rows.length ≤ 2000) (hC : C ≤ w.heap.size)
  (hk : ∀ v' w', WayV P C w' v' (rows ++ [row]) (vals ++ [r]) → w.grownBy w' v.ownBlock → (v'.ownBlock = v.ownBlock ∨ v'.ownBlock = some w.heap.size) → wpList Try.prog ops Q rest (act.put o.dst v') w') : wpList Try.prog ops Q (o :: rest) act w := by
 refine wpList_plain hgd fun K hK => ?_
 obtain ⟨v', w', h1, h2, h3, h4⟩ := run_append_way (oty := o.type) h hr hrow hlen hC
 exact wp_of_append w ho hs hx h1 (hK _ _ (hk v' w' h2 h3 h4))
theorem IntMap.uniq {w : World} {r : Nat} {l l' : AL} (h : IntMap w r l) (h' : IntMap w r l') : l = l' := by
 obtain ⟨es, c, h1, _, h2⟩ := h
 obtain ⟨es', c', h1', _, h2'⟩ := h'
 rw [h1] at h1'
 cases h1'
 rw [h2] at h2'
 have hinj : ∀ a b : Int × Value, ((Value.int .i64 a.1, a.2) : Value × Value) = (Value.int .i64 b.1, b.2) → a = b := fun a b e => by
  obtain ⟨a1, a2⟩ := a
  obtain ⟨b1, b2⟩ := b
  simp only [Prod.mk.injEq, Value.int.injEq, true_and] at e
  rw [e.1, e.2]
 exact (List.map_inj_right hinj).1 h2'
theorem take_snoc {α : Type} {w : List α} {p : α} {k : Nat} (hw : w.length = k) : (w ++ [p]).take k = w := by rw [List.take_left' hw]
theorem FindS.back {E : EnvM} (hE : E.Ok) {K K' : Nat → Prop} {v v' rp : Value} {ws : List Value} {w : List (List Int)} {p : List Int} {k : Nat} {W W' : World} (h0 : FindS E K v k ws w W) (h : FindS E K' v' (k + 1) (ws ++ [rp]) (w ++ [p]) W') (ht : Turned (fun q => q = E.bm ∨ q = E.cw ∨ v.ownBlock = some q) W W')
  (hown : ∀ g, v'.ownBlock = some g → v.ownBlock = some g ∨ W.heap.size ≤ g) (hw : w.length = k) {al : AL} (hm : IntMap W' E.bm al) (ha : EndsAt E.f E.a w k al) : FindS E K v' k ws w W' := by
 obtain ⟨a0, n0, cap0, e0, hk0, hv0⟩ := h0.way
 obtain ⟨a, n, cap, e, hkn, hv⟩ := h.way
 have hwl : ws.length = k := by rw [hv0.2.1, hw]
 have e1 : (Value.slice a0 k cap0).ownBlock = v.ownBlock := by rw [e0]; cases a0 <;> rfl
 have e2 : (Value.slice a k cap).ownBlock = v'.ownBlock := by rw [e]; cases a <;> rfl
 have hvk := hv.take (k := k) (by simp; omega)
 rw [take_snoc hw, take_snoc hwl] at hvk
 have hx3 := hE.x3
 have h1 := hE.o1
 have h2 := hE.o2
 have h3 := hE.o3
 have hnn := h0.nn
 refine ⟨h.lots, h.flow, h.cx, h.ca, h.cf, h.cw, ⟨a, n, cap, e, ⟨by omega, hkn.2⟩, hvk.1, hvk.2.1, hvk.2.2.1, fun j hj => ?_⟩, ⟨al, hm, ha⟩, h.sz, fun q hq => ⟨(hnn q hq).1, Nat.lt_of_lt_of_le (hnn q hq).2 ht.size⟩⟩
 have hx := hv0.2.2.2 j hj
 refine (hx.turned ht (fun q hq hX => ?_)).mono (fun q hq => ⟨hq.1, fun e3 => ?_⟩)
 ·have hp := (hnn q hq.1).1
  unfold EnvM.P at hp
  rcases hX with hX | hX | hX
  ·omega
  ·omega
  ·exact hq.2 (e1.trans hX)
 ·rcases hown q (e2.symm.trans e3) with h4 | h4
  ·exact hq.2 (e1.trans h4)
  ·have := (hnn q hq.1).2; omega
/-- one more list behind the way -/
theorem FindS.next {E : EnvM} (hE : E.Ok) {K S : Nat → Prop} {v v' rp : Value} {ws : List Value} {w : List (List Int)} {p : List Int} {k cap' : Nat} {a' : Option Addr} {W w5 : World} {o : Obj} (h : FindS E K v k ws w W) (hg : (W.alloc o).grownBy w5 v.ownBlock)
  (hS : ∀ q, S q → E.P q ∧ q < W.heap.size) (hway : WayV (fun q => K q ∨ S q) E.C w5 v' (w ++ [p]) (ws ++ [rp])) (hve : v' = .slice a' (k + 1) cap') (hcp : k + 1 ≤ cap') (hw : w.length = k) {al : AL} (hm : IntMap W E.bm al) (ha : EndsAt E.f E.a (w ++ [p]) (k + 1) al) :
  FindS E (fun q => K q ∨ S q) v' (k + 1) (ws ++ [rp]) (w ++ [p]) (w5.setCell ⟨E.cw, 0, none⟩ v') ∧ IntMap (w5.setCell ⟨E.cw, 0, none⟩ v') E.bm al ∧ Turned (fun q => q = E.cw ∨ v.ownBlock = some q) W (w5.setCell ⟨E.cw, 0, none⟩ v') := by
 have hx := hE.x1
 have hx2 := hE.x2
 have hx3 := hE.x3
 have hx4 := hE.x4
 have h1 := hE.o1
 have h2 := hE.o2
 have h3 := hE.o3
 have hsz := h.sz
 have hown := h.own
 have t1 : Turned (fun q => q = E.cw ∨ v.ownBlock = some q) W w5 := (Turned.of_below (box_below' W o)).trans (Turned.of_grown hg (fun q e => .inr e))
 have t2 : Turned (fun q => q = E.cw ∨ v.ownBlock = some q) w5 (w5.setCell ⟨E.cw, 0, none⟩ v') := Turned.of_grown (grown_setCell w5 ⟨E.cw, 0, none⟩ v') (fun q e => .inl (by simpa using e.symm))
 have t3 := t1.trans t2
 have hlow : ∀ q, q < E.C → q ≠ E.cw → ¬ (q = E.cw ∨ v.ownBlock = some q) := fun q a b c => by
  rcases c with c | c
  ·exact b c
  ·have := (hown q c).1; omega
 have hcw : Cell1 w5 E.cw v := h.cw.turned ((Turned.of_below (X := fun q => v.ownBlock = some q) (box_below' W o)).trans (Turned.of_grown hg (fun q e => e))) (fun e => by have := (hown _ e).1; omega)
 have hv5 : ∀ q, v'.ownBlock = some q → E.C ≤ q := fun q e => (hway.lt q e).1
 have hz : (w5.setCell ⟨E.cw, 0, none⟩ v').heap.size = w5.heap.size := by simp [World.setCell]
 have hway2 := hway.turned (X := fun q => q = E.cw) (Turned.of_grown (grown_setCell w5 ⟨E.cw, 0, none⟩ v') (fun q e => by simpa using e.symm)) (fun q hp _ e => by have hp1 : E.P q := (by rcases hp with hp | hp; exact (h.nn q hp).1; exact (hS q hp).1); unfold EnvM.P at hp1; omega) (fun q e e2 => by have := hv5 q e; omega)
 have hnn : ∀ q, K q ∨ S q → E.P q ∧ q < (w5.setCell ⟨E.cw, 0, none⟩ v').heap.size := fun q hq => by
  have h5 := t3.size
  rcases hq with hq | hq
  ·exact ⟨(h.nn q hq).1, Nat.lt_of_lt_of_le (h.nn q hq).2 h5⟩
  ·exact ⟨(hS q hq).1, Nat.lt_of_lt_of_le (hS q hq).2 h5⟩
 refine ⟨⟨h.lots.turned t3 (fun q a b => hlow q (by omega) (by omega)), h.flow.below (t3.below (by omega) (fun q hq => hlow q (by omega) (by omega))) (Nat.le_refl _), h.cx.turned t3 (hlow _ (by omega) (by omega)), h.ca.turned t3 (hlow _ (by omega) (by omega)), h.cf.turned t3 (hlow _ (by omega) (by omega)), hcw.set v', ⟨a', k + 1, cap', hve, ⟨Nat.le_refl _, hcp⟩, ?_⟩, ⟨al, hm.turned t3 (hlow _ (by omega) (by omega)), ha⟩, Nat.le_trans hsz t3.size, hnn⟩, hm.turned t3 (hlow _ (by omega) (by omega)), t3⟩
 rw [← hve]
 exact hway2
theorem Turned.transE {X Y : Nat → Prop} {a b c : World} (h : Turned X a b) (k : Turned Y b c) (hz : ∀ q, q < a.heap.size → Y q → X q) : Turned X a c :=
 ⟨k.os.trans h.os, k.tape.trans h.tape, k.output.trans h.output, Nat.le_trans h.size k.size, fun i hi hx => (k.block i (Nat.lt_of_lt_of_le hi h.size) (fun hy => hx (hz i hi hy))).trans (h.block i hi hx)⟩
theorem LotsAt.read {C D : Nat} {w : World} {q : Nat} {vl : Value} {f : Flow} (h : LotsAt C D w q vl f) {k : Nat} (hk : k < f.lots.length) : ∃ bF oF cF, w.cell? ⟨q, 0, none⟩ = some vl ∧ w.cell? ⟨q, 1, none⟩ = some (.slice (some ⟨bF, oF, none⟩) f.lots.length cF) ∧ w.cell? ⟨bF, oF + k, none⟩ = some (.int .i64 (beforeI f k)) := by
 obtain ⟨vF, A, R, M, _, _, _, _, h5, ⟨b, o, c, ⟨a, e, _, _, ha⟩, _, _, hc⟩, _⟩ := h.lay
 rw [firstF_len] at e ha hc
 obtain rfl : a = some ⟨b, o, none⟩ := by rcases ha with h | h; exact h; omega
 have m1 := h5.cell 0
 have m2 := h5.cell 1
 simp at m1 m2
 rw [e] at m2
 have m3 := (hc k hk).2.2
 rw [firstF_at f hk] at m3
 exact ⟨b, o, c, m1, m2, m3⟩
set_option maxHeartbeats 8000000 in
set_option maxRecDepth 100000 in
/-- explain.Make: try -/
theorem try_any (E : EnvM) (hE : E.Ok) (k : Nat) (hk : k < E.f.lots.length) (hc : checkE E.f = 0) (hal : (E.a.length : Int) = E.f.senders) (ha64 : ∀ x ∈ E.a, I64 x) (hfind : FindC E (k + 1)) (W : World) (K S : Nat → Prop) (v : Value) (ws : List Value) (w : List (List Int)) (vp : Value) (p : List Int) (ck : Nat)
  (hS : FindS E K v k ws w W) (hw : w.length = k) (ho : WayOk E.f w k) (hg : GoodAt E.f E.a w k) (hp : p ∈ permsOf (lotAt E.f.lots k)) (hSp : ∀ q, S q → E.P q ∧ q < W.heap.size) (hSB : ∀ q, q < E.B → S q) (hvp : IsIntsX (fun q => S q ∧ v.ownBlock ≠ some q) W vp p) (hck : Box W ck #[.int .i64 (k : Int)]) (hckC : E.C ≤ ck) (hckv : v.ownBlock ≠ some ck) :
  Calls Try.prog 35 #[vp, .pointer (some ⟨E.cx, 0, none⟩), .pointer (some ⟨ck, 0, none⟩), .pointer (some ⟨E.ca, 0, none⟩), .pointer (some ⟨E.cw, 0, none⟩), .pointer (some ⟨E.cf, 0, none⟩)] W (FPost E K S v k ws w W (findM E.f E.a (E.f.lots.length - (k + 1)) (w ++ [p]))) := by
 obtain ⟨h0, h64, hl2, hb5, hlo⟩ := checkE_ok hc
 have HLB := Lib.hid (lotB_parts (lotsB_lot hlo hk))
 have HPP := Lib.hid (permB_parts (permsOf_perm (lotsB_lot hlo hk) hp))
 have HS := Lib.hid hS
 have HVP := Lib.hid hvp
 have HCK := Lib.hid hck
 have HF := Lib.hid hfind
 have HFG := Lib.hid (fits_good hc hk hw ho hp hg)
 have HEN := Lib.hid (fun al (h : EndsAt E.f E.a w k al) => ends_next (al := al) hc hk hw ho hp h)
 have HWO : Hid (WayOk E.f (w ++ [p]) (k + 1)) := Lib.hid (way_app hw ho hp)
 have HNO : Hid (¬ GoodAt E.f E.a (w ++ [p]) (k + 1) → findM E.f E.a (E.f.lots.length - (k + 1)) (w ++ [p]) = none) := Lib.hid (fun h => find_none hc hal (by omega) (by simp; omega) (by rw [show E.f.lots.length - (E.f.lots.length - (k + 1)) = k + 1 by omega]; exact HWO.out) (by rw [show E.f.lots.length - (E.f.lots.length - (k + 1)) = k + 1 by omega]; exact h))
 have HOL : Hid (∀ al q x, x < beforeI E.f k → q ≤ p.length → alook (outM E.f E.a w k p al q) x = alook al x) := Lib.hid (fun al q x hx hq => out_low hx (fun y hy => (HPP.out.1 y hy).1) hq)
 have HEI : Hid (∀ r, r < (lotAt E.f.lots k).ins.length → ∃ t, t < E.f.senders.toNat ∧ posW E.f w k t = nth (lotAt E.f.lots k).ins r ∧ endIn E.f E.a w k r = nth E.a t) := Lib.hid (fun r hr => end_in hc hk ho hr)
 have HPL : Hid (∀ t, t < E.f.senders.toNat → posW E.f w k t < beforeI E.f k) := Lib.hid (fun t ht => (pos_lt h0 (show k ≤ E.f.lots.length by omega) (lotsB_le hlo (by omega)) ho ht).2.1)
 have HA64 := Lib.hid (nth_64 ha64)
 have hB0 := before_bd hc (k := k) (by omega)
 have hB1 := before_bd hc (k := k + 1) (by omega)
 have hBS : beforeI E.f (k + 1) = beforeI E.f k + (lotAt E.f.lots k).ins.length := rfl
 rw [hBS] at hB1
 obtain ⟨hB0, hB0'⟩ := hB0
 obtain ⟨hB1, hB1'⟩ := hB1
 obtain ⟨ap, cp, rfl⟩ := hvp.form
 obtain ⟨b, off, capL, ⟨aL, hvl, hL1, hL2, hL3⟩, hL4, hL5⟩ := hS.flow
 obtain rfl : aL = some ⟨b, off, none⟩ := by rcases hL3 with h | h; exact h; omega
 have HCK0 := Lib.hid (fun (W' : World) (h : Turned (fun q => q = E.bm) W W') => hck.turned h (fun e => by have := hE.x3; omega))
 have HFL : Hid (∀ W', IsLots E.B W' E.vl E.f.lots → ∃ ai ci kn pv, W'.cell? ⟨b, off + k * 3, none⟩ = some (.slice ai (lotAt E.f.lots k).ins.length ci) ∧ W'.cell? ⟨b, off + k * 3 + 1, none⟩ = some kn ∧ W'.cell? ⟨b, off + k * 3 + 2, none⟩ = some pv ∧ IsInts E.B W' (.slice ai (lotAt E.f.lots k).ins.length ci) (lotAt E.f.lots k).ins) := Lib.hid (by
  intro W' h
  obtain ⟨b', off', cap', ⟨a', e, _, _, ha'⟩, _, hc'⟩ := h
  rw [hvl] at e
  cases e
  obtain ⟨rfl, rfl⟩ : b = b' ∧ off = off' := by
   rcases ha' with h | h
   ·simpa using h
   ·omega
  obtain ⟨vi, vk, vp, q1, q2, q3, hli, _, _⟩ := hc' k hk
  obtain ⟨ai, ci, rfl⟩ := hli.form
  exact ⟨ai, ci, vk, vp, q1.2, q2.2, q3.2, hli⟩)
 clear hL3 hL5 hS hvp hck hfind ha64 hBS
 go_enter Try.func35, Try.ntmps35
 obtain ⟨vF0, A0, R0, M0, g1, g2, g3, g4, g5, g6, _⟩ := HS.out.lots.lay
 have m1 := HS.out.cx.cell
 have m2 := g5.cell 0
 simp at m2
 have m3 := HCK.out.2
 obtain ⟨ai, ci, kn, pv, m4, m5, m6, hins⟩ := HFL.out W HS.out.flow
 rw [hvl] at m2
 clear g1 g2 g3 g4 g5 g6
 go_wp2
 go_quiet (fail)
 obtain ⟨al, hm0, hea⟩ := HS.out.mp
 have HEA := Lib.hid hea
 have HM0 := Lib.hid hm0
 have HINS := Lib.hid hins
 obtain ⟨m, hm⟩ : ∃ x, (lotAt E.f.lots k).ins.length = x := ⟨_, rfl⟩
 have HM := Lib.hid hm
 rw [hm] at hB1 hB1' HINS HLB HPP HEI HEN ⊢
 rw [hm] at HFG
 clear m1 m2 m3 m4 m5 m6 hins hm0 hea hm
 go_wp2_with fail
 go_loopw [8, 21] (fun fi' i' wr => ∃ q : Nat, q ≤ m ∧ i' = .int .i64 (q : Nat) ∧ fi' = .bool (fitN E.f E.a w k p q) ∧ Turned (fun q => q = E.bm) W wr ∧ FindS E K v k ws w wr ∧ IntMap wr E.bm (outM E.f E.a w k p al q)) (fun _ i' _ => m - (intOf i').toNat)
 case atStart => exact ⟨0, by omega, rfl, rfl, ⟨rfl, rfl, rfl, Nat.le_refl _, fun _ _ _ => rfl⟩, HS.out.ext hE (below_drewN (Below.refl _ _) _), HM0.out⟩
 case round =>
  obtain ⟨q, hq, rfl, rfl, ht, hs, hmq⟩ := hrel
  have HT := Lib.hid ht
  have HSQ := Lib.hid hs
  have HMQ := Lib.hid hmq
  by_cases hqm : q < m
  ·obtain ⟨bi, oi, ci', ⟨ai', hai, _, _, hai'⟩, _, _, hci⟩ := HINS.out
   rw [HM.out] at hai hci hai'
   obtain ⟨rfl, rfl⟩ : ai = ai' ∧ ci = ci' := by simpa using hai
   obtain rfl : ai = some ⟨bi, oi, none⟩ := by rcases hai' with h | h; exact h; omega
   obtain ⟨bp, op, cp', ⟨ap', hap, _, _, hap'⟩, _, _, hcp⟩ := HVP.out
   obtain ⟨rfl, rfl⟩ : ap = ap' ∧ cp = cp' := by simpa using hap
   have hpl : q < p.length := by rw [HPP.out.2.1]; exact hqm
   obtain rfl : ap = some ⟨bp, op, none⟩ := by rcases hap' with h | h; exact h; omega
   have hcpq := hcp q hpl
   have c1 := (ht.cell (p := ⟨bp, op + q, none⟩) hcpq.2.1 (fun e => by have h1 := (hSp _ hcpq.1.1).1; unfold EnvM.P at h1; have h2 := hE.x3; have h3 := hE.o1; have h4 := hE.o2; have h5 := hE.o3; have e2 : bp = E.bm := e; omega)).trans hcpq.2.2
   have c2 := (ht.cell (p := ⟨bi, oi + q, none⟩) (by have := (hci q hqm).1; have := HS.out.sz; have := hE.x3; have := hE.o1; have := hE.o2; have := hE.o3; show bi < _; omega) (fun e => by have := (hci q hqm).1; have h2 := hE.x3; have h3 := hE.o1; have h4 := hE.o2; have h5 := hE.o3; have e2 : bi = E.bm := e; omega)).trans (hci q hqm).2
   have hpi := HPP.out.1 _ (nth_mem hpl)
   have hsp : nth (lotAt E.f.lots k).ins q < beforeI E.f k := (HLB.out.2.2.1 _ (nth_mem (by rw [HM.out]; exact hqm))).2.1
   have hval : alook (outM E.f E.a w k p al q) (nth (lotAt E.f.lots k).ins q) = some (.int .i64 (endIn E.f E.a w k q)) := by
    rw [HOL.out _ _ _ hsp (by omega)]
    obtain ⟨t, ht1, ht2, ht3⟩ := HEI.out q hqm
    rw [← ht2, ht3]
    exact HEA.out t ht1
   have hval2 : alook (outM E.f E.a w k p al (q + 1)) (nth (lotAt E.f.lots k).ins q) = some (.int .i64 (endIn E.f E.a w k q)) := by
    rw [HOL.out _ _ _ hsp (by omega), ← HOL.out al q _ hsp (by omega)]
    exact hval
   have HSTEP : Hid (outM E.f E.a w k p al (q + 1) = aset (outM E.f E.a w k p al q) (beforeI E.f k + nth p q) (.int .i64 (endIn E.f E.a w k q))) := Lib.hid rfl
   have HFS : Hid (fitN E.f E.a w k p (q + 1) = (fitN E.f E.a w k p q && leadE E.f (beforeI E.f k + nth p q) (endIn E.f E.a w k q))) := Lib.hid rfl
   obtain ⟨pi, hpi'⟩ : ∃ x, nth p q = x := ⟨_, rfl⟩
   obtain ⟨sp, hsp'⟩ : ∃ x, nth (lotAt E.f.lots k).ins q = x := ⟨_, rfl⟩
   obtain ⟨eq, heq⟩ : ∃ x, endIn E.f E.a w k q = x := ⟨_, rfl⟩
   rw [hpi'] at c1 hpi HSTEP HFS
   rw [hsp'] at c2 hsp hval hval2
   rw [heq] at hval hval2 HSTEP HFS
   have HV1 := Lib.hid hval
   have HV2 := Lib.hid hval2
   have HEQ : Hid (I64 eq) := Lib.hid (by
    obtain ⟨t, ht1, ht2, ht3⟩ := HEI.out q hqm
    rw [← heq, ht3]
    exact HA64.out t)
   have HSPL := Lib.hid hsp
   obtain ⟨hpi1, hpi2⟩ := hpi
   obtain ⟨bF, oF, cF, r1, r2, r3⟩ := hs.lots.read hk
   have m1 := hs.cx.cell
   have m3 := (HCK0.out _ ht).2
   have m4 := hs.ca.cell
   clear hai hai' hci hap hap' hcp hcpq hval hval2 hpi' hsp' heq ht hs hmq hsp
   have hwj : IntKind.i64.wrap (beforeI E.f k + pi) = beforeI E.f k + pi := IntWalk.i64_in _ (by omega)
   obtain ⟨FI, hFI⟩ : ∃ x, fitN E.f E.a w k p q = x := ⟨_, rfl⟩
   rw [hFI] at HFS ⊢
   clear hFI
   have HEN1 : Hid (EndsAt E.f E.a w k (outM E.f E.a w k p al (q + 1))) := Lib.hid (fun t ht => by rw [HOL.out _ _ _ (HPL.out t ht) (by omega)]; exact HEA.out t ht)
   have HV3 : Hid (alook (aset (outM E.f E.a w k p al q) (beforeI E.f k + pi) (.int .i64 eq)) sp = some (.int .i64 eq)) := Lib.hid (by rw [← HSTEP.out]; exact HV2.out)
   have HKM : Hid (∀ n w8, (wr.drewN n).grownBy w8 (some E.bm) → IntMap w8 E.bm (aset (outM E.f E.a w k p al q) (beforeI E.f k + pi) (.int .i64 eq)) → Turned (fun q => q = E.bm) W w8 ∧ FindS E K v k ws w w8) := Lib.hid (fun n w8 h2 h3 => by
    have h1 : Turned (fun q => q = E.bm) wr (wr.drewN n) := ⟨rfl, rfl, rfl, Nat.le_refl _, fun _ _ _ => rfl⟩
    have h4 : Turned (fun q => q = E.bm) (wr.drewN n) w8 := Turned.of_grown h2 (fun k e => by simpa using e.symm)
    rw [← HSTEP.out] at h3
    exact ⟨(HT.out.trans h1).trans h4, HSQ.out.keepM hE (h1.trans h4) h3 HEN1.out⟩)
   clear HV2
   cases FI
   ·rw [Bool.false_and] at HFS
    go_wp2
    go_quiet (fail)
    go_wp2_with (first
     | (at_lookup; refine wpList_lookup_ints rfl _ _ false rfl Try.underlying62 Try.underlying3 (Try.zeroValue3 _) rfl HMQ.out rfl ?_; rw [HV1.out])
     | (at_mapUpdate; refine wpList_update_ints (x := beforeI E.f k + pi) (v := .int .i64 eq) rfl _ _ _ rfl Try.underlying62 Try.underlying3 rfl HMQ.out rfl rfl ?_; intro w8 hs8 hg8 hz8; have HS8 := Lib.hid hs8; have HK8 := Lib.hid (HKM.out _ w8 hg8 hs8); clear hs8 hg8 hz8))
    exact ⟨⟨q + 1, by omega, by go_num, by rw [HFS.out], HK8.out.1, HK8.out.2, by rw [HSTEP.out]; exact HS8.out⟩, by simp [intOf]; omega⟩
   ·rw [Bool.true_and] at HFS
    obtain ⟨LE, hLE⟩ : ∃ x, leadE E.f (beforeI E.f k + pi) eq = x := ⟨_, rfl⟩
    have HLE := Lib.hid hLE
    rw [hLE] at HFS
    clear hLE
    go_wp2
    go_quiet (fail)
    go_wp2_with (first
     | (at_lookup; refine wpList_lookup_ints rfl _ _ false rfl Try.underlying62 Try.underlying3 (Try.zeroValue3 _) rfl HMQ.out rfl ?_; rw [HV1.out])
     | (at_mapUpdate; refine wpList_update_ints (x := beforeI E.f k + pi) (v := .int .i64 eq) rfl _ _ _ rfl Try.underlying62 Try.underlying3 rfl HMQ.out rfl rfl ?_; intro w8 hs8 hg8 hz8; have HS8 := Lib.hid hs8; have HK8 := Lib.hid (HKM.out _ w8 hg8 hs8); clear hs8 hg8 hz8; have n1 := HK8.out.2.cx.cell; have n4 := HK8.out.2.ca.cell)
     | (at_lookup; refine wpList_lookup_ints rfl _ _ false rfl Try.underlying62 Try.underlying3 (Try.zeroValue3 _) rfl HS8.out rfl ?_; rw [HV3.out])
     | (go_at_call 33; refine (leads_any E.C0 E.D0 _ E.q0 E.vl E.f _ _ HK8.out.2.lots hc).mono ?_; rintro e w9 ⟨rfl, rfl⟩; rw [HLE.out]))
    exact ⟨⟨q + 1, by omega, by go_num, by rw [HFS.out], HK8.out.1, HK8.out.2, by rw [HSTEP.out]; exact HS8.out⟩, by simp [intOf]; omega⟩
  ·obtain rfl : q = m := by omega
   have HT3 := Lib.hid ht
   obtain ⟨W3, hW3⟩ : ∃ x, wr = x := ⟨_, rfl⟩
   rw [hW3] at HSQ HMQ HT3 ⊢
   have HEN2 := Lib.hid (HEN.out al HEA.out)
   have m3 := (HCK0.out _ HT3.out).2
   have m4 := HSQ.out.cw.cell
   clear ht hs hmq hW3 HT
   have HSZ := Lib.hid HSQ.out.sz
   have HMK : Hid (∀ W' al', IntMap W' E.bm al' → (∀ x, x < beforeI E.f k → alook al' x = alook (outM E.f E.a w k p al q) x) → MapKeep W W' E.bm (beforeI E.f k) ∧ EndsAt E.f E.a w k al') := Lib.hid (fun W' al' h1 h2 => by
    refine ⟨fun al2 h3 => ⟨al', h1, fun x hx => ?_⟩, fun t ht => ?_⟩
    ·rw [h2 x hx, IntMap.uniq h3 HM0.out, HOL.out _ _ _ hx (by have := HPP.out.2.1; omega)]
    ·rw [h2 _ (HPL.out t ht), HOL.out _ _ _ (HPL.out t ht) (by have := HPP.out.2.1; omega)]
     exact HEA.out t ht)
   have HFR : Hid (∀ (v5 rp : Value) (W6 : World), FindS E (fun q => K q ∨ S q) v5 (k + 1) (ws ++ [rp]) (w ++ [p]) W6 → IntMap W6 E.bm (outM E.f E.a w k p al q) → Turned (fun q => q = E.cw ∨ v.ownBlock = some q) W3 W6 → (∀ g, v5.ownBlock = some g → v.ownBlock = some g ∨ W3.heap.size ≤ g) →
     FPost E K S v k ws w W none (.returned (.bool false)) W6 ∧ ∀ r e W', FPost E (fun q => K q ∨ S q) (fun q => q < E.B) v5 (k + 1) (ws ++ [rp]) (w ++ [p]) W6 r e W' → FPost E K S v k ws w W r e W') := Lib.hid (fun v5 rp W6 h1 h2 h3 h4 => by
    have hz : W.heap.size ≤ W3.heap.size := HT3.out.size
    have hta : Turned (fun q => q = E.bm ∨ q = E.cw ∨ v.ownBlock = some q) W W6 := (HT3.out.mono (fun q _ e => .inl e)).trans (h3.mono (fun q _ e => .inr e))
    have hk1 := HMK.out W6 _ h2 (fun _ _ => rfl)
    have hown5 : ∀ g, v5.ownBlock = some g → v.ownBlock = some g ∨ W.heap.size ≤ g := fun g e => by
     rcases h4 g e with h4 | h4
     ·exact .inl h4
     ·exact .inr (Nat.le_trans hz h4)
    refine ⟨⟨rfl, v5, HS.out.back hE h1 hta hown5 hw h2 hk1.2, hk1.1, hta, hown5, fun u e => by cases e⟩, ?_⟩
    rintro r e W' ⟨he, v', q1, q2, q3, q4, q5⟩
    obtain ⟨al', m1, m2⟩ := q2 _ h2
    have hmono : beforeI E.f k ≤ beforeI E.f (k + 1) := beforeI_mono (by omega)
    have hk2 := HMK.out W' al' m1 (fun x hx => m2 x (by omega))
    have htb : Turned (fun q => q = E.bm ∨ q = E.cw ∨ v.ownBlock = some q) W W' := hta.transE q3 (fun q hq e => by
     rcases e with e | e | e
     ·exact .inl e
     ·exact .inr (.inl e)
     ·rcases hown5 q e with e2 | e2
      ·exact .inr (.inr e2)
      ·omega)
    have hown6 : ∀ g, v'.ownBlock = some g → v.ownBlock = some g ∨ W.heap.size ≤ g := fun g e => by
     rcases q4 g e with e2 | e2
     ·exact hown5 g e2
     ·exact .inr (by have := hta.size; omega)
    refine ⟨he, v', HS.out.back hE q1 htb hown6 hw m1 hk2.2, hk2.1, htb, hown6, fun u hu => ?_⟩
    obtain ⟨vals, hv⟩ := q5 u hu
    refine ⟨vals, hv.mono (fun q hq _ => ?_)⟩
    rcases hq with (hq | hq) | hq | hq
    ·exact .inl hq
    ·exact .inr (.inl hq)
    ·exact .inr (.inl (hSB q hq))
    ·exact .inr (.inr (by have := hta.size; omega)))
   obtain ⟨FI, hFI⟩ : ∃ x, fitN E.f E.a w k p q = x := ⟨_, rfl⟩
   rw [hFI] at HFG ⊢
   clear hFI
   obtain ⟨RR, hRR⟩ : ∃ r, findM E.f E.a (E.f.lots.length - (k + 1)) (w ++ [p]) = r := ⟨_, rfl⟩
   have HRR := Lib.hid hRR
   rw [hRR] at HNO ⊢
   have HFC := Lib.hid (fun (W6 : World) (v5 rp : Value) (h : FindS E (fun q => K q ∨ S q) v5 (k + 1) (ws ++ [rp]) (w ++ [p]) W6) (hx : ∃ a cap, v5 = .slice a (k + 1) cap) (hgo : GoodAt E.f E.a (w ++ [p]) (k + 1)) => HF.out W6 _ v5 (ws ++ [rp]) (w ++ [p]) h hx (by simp; omega) HWO.out hgo)
   rw [hRR] at HFC
   clear hRR
   have HCKX : Hid (∀ W6, Turned (fun q => q = E.cw ∨ v.ownBlock = some q) W3 W6 → Box W6 ck #[.int .i64 (k : Int)]) := Lib.hid (fun W6 h => (HCK0.out _ HT3.out).turned h (fun e => by
    rcases e with e | e
    ·have h1 := hE.x1; have h2 := hE.o2; have h3 := hE.o3; omega
    ·exact hckv e))
   obtain ⟨av, nv, cv, rfl, hkn, hwv⟩ := HSQ.out.way
   have HWT : Hid (WayV (fun q => K q ∨ S q) E.C W3 (.slice av k cv) w ws) := Lib.hid (hwv.mono (fun q hq _ => .inl hq))
   have HSP3 : Hid (∀ q, S q → E.P q ∧ q < W3.heap.size) := Lib.hid (fun q hq => ⟨(hSp q hq).1, Nat.lt_of_lt_of_le (hSp q hq).2 HT3.out.size⟩)
   have hwvl := HWT.out.form
   have hov : (Value.slice av k cv).ownBlock = (Value.slice av nv cv).ownBlock := by cases av <;> rfl
   have HOV := Lib.hid hov
   have HVX : Hid (∀ W', Below W3.heap.size W3 W' → IsIntsX (fun q => (K q ∨ S q) ∧ (Value.slice av k cv).ownBlock ≠ some q) W' (.slice ap p.length cp) p) := Lib.hid (fun W' h => by
    rw [hov]
    exact ((HVP.out.turned HT3.out (fun q hq e => by have h1 := (hSp q hq.1).1; unfold EnvM.P at h1; have h2 := hE.x3; have h3 := hE.o1; have h4 := hE.o2; have h5 := hE.o3; omega)).mono (fun q hq => ⟨.inr hq.1, hq.2⟩)).belowX h)
   have HOWN := Lib.hid HSQ.out.own
   clear hwv hov
   obtain ⟨hkn1, hkn2⟩ := hkn
   rcases hwvl with ⟨hn1, hn2⟩ | ⟨g, cap, hn1, hn2, hn3⟩
   ·obtain ⟨rfl, rfl, rfl⟩ : av = none ∧ k = 0 ∧ cv = 0 := by simpa using hn1
    obtain rfl : nv = 0 := by omega
    clear hn1 hn2
    go_upto_region 10 with (first
     | (at_builtin; refine append_wayA rfl _ _ rfl rfl rfl (HWT.out.ext (box_below' _ _)) (World.cell?_alloc_at _ _ _ _ rfl) (HVX.out _ (box_below' _ _)) (by omega) (by have := HSZ.out; simp; omega) ?_; intro v5 w5 ho5 hg5 hat5; obtain ⟨g5, cap5, hv5e, hv5c⟩ : ∃ g cap, v5 = .slice (some ⟨g, 0, none⟩) (0 + 1) cap ∧ 0 + 1 ≤ cap := (by rcases ho5.form with e | ⟨g, cap, e, e2, _⟩; (have h1 := e.2; simp at h1); exact ⟨g, cap, by rw [e]; simp [hw], by simp [hw] at e2; omega⟩); have HAT5 := Lib.hid hat5; have HNX := Lib.hid (HSQ.out.next hE hg5 HSP3.out ho5 hv5e hv5c hw HMQ.out HEN2.out); subst hv5e; have k5 := (HSQ.out.cw.turned ((Turned.of_below (X := fun q => (Value.slice none 0 0).ownBlock = some q) (box_below' W3 _)).trans (Turned.of_grown hg5 (fun q e => e))) (fun e => by have h1 := (HWT.out.lt _ e).1; have h2 := hE.x1; have h3 := hE.o2; have h4 := hE.o3; omega)); have k6 := k5.cell; have k7 := k5.free; clear ho5 hg5 hat5 hv5c))
    refine wp_name (fun W6 hW6 => ?_)
    have HN6 := Lib.hid HNX.out.1
    have HI6 := Lib.hid HNX.out.2.1
    have HT6 := Lib.hid HNX.out.2.2
    rw [← hW6] at HN6 HI6 HT6
    have HF6 := Lib.hid (HFR.out _ _ W6 HN6.out HI6.out HT6.out (fun g e => by rcases HAT5.out with h | h; exact .inl (h.symm.trans e); (rw [h] at e; cases e; exact .inr (by simp))))
    have n1 : W6.cell? ⟨E.cf, 0, none⟩ = some (.func (.func 34) #[] #[.pointer (some ⟨E.cx, 0, none⟩), .pointer (some ⟨E.ca, 0, none⟩), .pointer (some ⟨E.cw, 0, none⟩), .pointer (some ⟨E.cf, 0, none⟩)]) := HN6.out.cf.cell
    have n2 := (HCKX.out W6 HT6.out).2
    have HCC := Lib.hid (HFC.out W6 _ _ HN6.out ⟨_, _, rfl⟩)
    clear hW6 k6 k7 m3 m4
    cases FI
    ·have hng : ¬ GoodAt E.f E.a (w ++ [p]) (0 + 1) := fun h => by have := HFG.out.2 h; cases this
     go_wp2
     go_ret
     rw [HRR.out, HNO.out hng]
     exact HF6.out.1
    ·have hgo := HFG.out.1 rfl
     have HCD := Lib.hid (HCC.out hgo)
     go_wp2_with (go_at_call 34; refine HCD.out.mono ?_; intro e W9 hpost; have HPO := Lib.hid (HF6.out.2 _ _ _ hpost); have he := hpost.1; clear hpost; subst he)
     go_ret
     rw [HRR.out]
     exact HPO.out
   ·obtain ⟨rfl, hwk, rfl⟩ : av = some ⟨g, 0, none⟩ ∧ k = w.length ∧ cv = cap := by simpa using hn1
    clear hwk
    have hkc : k ≤ cv := by omega
    clear hn1 hn2
    go_upto_region 10 with (first
     | (at_builtin; refine append_wayA rfl _ _ rfl rfl rfl (HWT.out.ext (box_below' _ _)) (World.cell?_alloc_at _ _ _ _ rfl) (HVX.out _ (box_below' _ _)) (by omega) (by have := HSZ.out; simp; omega) ?_; intro v5 w5 ho5 hg5 hat5; obtain ⟨g5, cap5, hv5e, hv5c⟩ : ∃ g cap, v5 = .slice (some ⟨g, 0, none⟩) (k + 1) cap ∧ k + 1 ≤ cap := (by rcases ho5.form with e | ⟨g, cap, e, e2, _⟩; (have h1 := e.2; simp at h1); exact ⟨g, cap, by rw [e]; simp [hw], by simp [hw] at e2; omega⟩); have HAT5 := Lib.hid hat5; have HNX := Lib.hid (HSQ.out.next hE hg5 HSP3.out ho5 hv5e hv5c hw HMQ.out HEN2.out); subst hv5e; have k5 := (HSQ.out.cw.turned ((Turned.of_below (X := fun q => (Value.slice (some ⟨g, 0, none⟩) k cv).ownBlock = some q) (box_below' W3 _)).trans (Turned.of_grown hg5 (fun q e => e))) (fun e => by have h1 := (HWT.out.lt _ e).1; have h2 := hE.x1; have h3 := hE.o2; have h4 := hE.o3; omega)); have k6 := k5.cell; have k7 := k5.free; clear ho5 hg5 hat5 hv5c))
    refine wp_name (fun W6 hW6 => ?_)
    have HN6 := Lib.hid HNX.out.1
    have HI6 := Lib.hid HNX.out.2.1
    have HT6 := Lib.hid HNX.out.2.2
    rw [← hW6] at HN6 HI6 HT6
    have HF6 := Lib.hid (HFR.out _ _ W6 HN6.out HI6.out HT6.out (fun g e => by rcases HAT5.out with h | h; exact .inl (h.symm.trans e); (rw [h] at e; cases e; exact .inr (by simp))))
    have n1 : W6.cell? ⟨E.cf, 0, none⟩ = some (.func (.func 34) #[] #[.pointer (some ⟨E.cx, 0, none⟩), .pointer (some ⟨E.ca, 0, none⟩), .pointer (some ⟨E.cw, 0, none⟩), .pointer (some ⟨E.cf, 0, none⟩)]) := HN6.out.cf.cell
    have n2 := (HCKX.out W6 HT6.out).2
    have HCC := Lib.hid (HFC.out W6 _ _ HN6.out ⟨_, _, rfl⟩)
    clear hW6 k6 k7 m3 m4
    cases FI
    ·have hng : ¬ GoodAt E.f E.a (w ++ [p]) (k + 1) := fun h => by have := HFG.out.2 h; cases this
     go_wp2
     go_ret
     rw [HRR.out, HNO.out hng]
     exact HF6.out.1
    ·have hgo := HFG.out.1 rfl
     have HCD := Lib.hid (HCC.out hgo)
     go_wp2_with (go_at_call 34; refine HCD.out.mono ?_; intro e W9 hpost; have HPO := Lib.hid (HF6.out.2 _ _ _ hpost); have he := hpost.1; clear hpost; subst he)
     go_ret
     rw [HRR.out]
     exact HPO.out
end Go.Proofs.Yteiaeaciaglmgaa
set_option linter.unusedVariables false
set_option linter.unusedSimpArgs false
namespace Go.Proofs.Yteiaeaciaglmgaa
open Go.RowKit
attribute [local go_sem] Oper.semAt_some
attribute [local go_sem] run_store_func
theorem eperms_any (w : World) (n : Int) :
  Calls Try.prog 36 #[.int .i64 n] w fun e w' => e = .returned (.func (.func 56) #[] #[.pointer (some ⟨w.heap.size, 0, none⟩)]) ∧ w' = w.alloc (.cells #[.int .i64 n] 3) := by
 have hmf := @run_makeFunc_any Try.prog
 go_enter Try.func36, Try.ntmps36
 go_wp2
 go_ret
 exact ⟨rfl, rfl⟩
theorem MapKeep.ext {W W' : World} {bm : Nat} (b : Int) (hb : Below W.heap.size W W') : MapKeep W W' bm b := fun al h => ⟨al, h.ext hb, fun _ _ => rfl⟩
theorem drew_size (w : World) : w.drew.heap.size = w.heap.size := rfl
theorem WayV.other {P X : Nat → Prop} {C : Nat} {w w' : World} {v : Value} {rows : List (List Int)} {vals : List Value} (h : WayV P C w v rows vals) (ht : Turned X w w') (hv : ∀ q, v.ownBlock = some q → ¬ X q) (hX : ∀ q i z, X q → w.cell? ⟨q, i, none⟩ ≠ some (.int .i64 z)) : WayV P C w' v rows vals := by
 obtain ⟨⟨k1, h1⟩, h2, h3, h4⟩ := h
 refine ⟨⟨k1, ?_⟩, h2, h3, fun j hj => ?_⟩
 ·rcases h1 with h1 | ⟨g, cap, cur, rfl, hb, hh, rest⟩
  ·exact .inl h1
  ·exact .inr ⟨g, cap, cur, rfl, hb, (ht.block g (Array.getElem?_eq_some_iff.1 hh).1 (hv g rfl)).trans hh, rest⟩
 ·obtain ⟨b, o, c, g1, g2, g3, g4⟩ := h4 j hj
  exact ⟨b, o, c, g1, g2, g3, fun i hi => ⟨(g4 i hi).1, Nat.lt_of_lt_of_le (g4 i hi).2.1 ht.size, (ht.cell (p := ⟨b, o + i, none⟩) (g4 i hi).2.1 (fun hx => hX b (o + i) _ hx (g4 i hi).2.2)).trans (g4 i hi).2.2⟩⟩
theorem FPost.wrap {E : EnvM} (hE : E.Ok) {K S X : Nat → Prop} {v : Value} {k : Nat} {ws : List Value} {w : List (List Int)} {W W5 W6 W7 : World} {r : Option (List (List Int))} {e : Ending} (h0 : FindS E K v k ws w W) (hb : Below W.heap.size W W5) (h : FPost E K S v k ws w W5 r e W6)
  (ht : Turned X W6 W7) (hX : ∀ q, X q → W.heap.size ≤ q ∧ q < W5.heap.size ∧ ∀ i z, W6.cell? ⟨q, i, none⟩ ≠ some (.int .i64 z)) : FPost E K S v k ws w W r e W7 := by
 obtain ⟨he, v', h1, h2, h3, h4, h5⟩ := h
 have hsz := h0.sz
 have hbz := hb.size
 have hx3 := hE.x3
 obtain ⟨al, m1, m2⟩ := h1.mp
 have hown : ∀ q, v'.ownBlock = some q → ¬ X q := fun q e hx => by
  have hq := hX q hx
  rcases h4 q e with h | h
  ·have := (h0.own q h).2; omega
  ·omega
 have m3 : ∀ al, IntMap W6 E.bm al → IntMap W7 E.bm al := fun al h => h.turned ht (fun hx => by have := (hX _ hx).1; omega)
 refine ⟨he, v', h1.turnedW hE ht (fun q q1 q2 hx => by have := (hX _ hx).1; omega) (fun q q1 q2 q3 hx => by have := (hX _ hx).1; have := (h0.nn q q2).2; omega) hown (m3 al m1) m2, fun al2 ha2 => ?_, ?_, fun g e => ?_, fun u hu => ?_⟩
 ·obtain ⟨al', a1, a2⟩ := h2 al2 (ha2.ext hb)
  exact ⟨al', m3 al' a1, a2⟩
 ·exact ((Turned.of_below hb).transE h3 (fun q _ e => e)).transE ht (fun q hq hx => by have := (hX _ hx).1; omega)
 ·rcases h4 g e with h | h
  ·exact .inl h
  ·exact .inr (by omega)
 ·obtain ⟨vals, hv⟩ := h5 u hu
  refine ⟨vals, (hv.other ht hown (fun q i z hx => (hX q hx).2.2 i z)).mono (fun q hq _ => ?_)⟩
  rcases hq with hq | hq | hq
  ·exact .inl hq
  ·exact .inr (.inl hq)
  ·exact .inr (.inr (by omega))
theorem Cell1.noInt {w : World} {b : Nat} {x : Bool} (h : Cell1 w b (.bool x)) (i : Nat) (z : Int) : w.cell? ⟨b, i, none⟩ ≠ some (.int .i64 z) := by
 rw [h.box.2 i]
 cases i with
 | zero => simp
 | succ i => simp
theorem find_known {f : Flow} {a : List Int} {k : Nat} (hk : k < f.lots.length) (hkn : (lotAt f.lots k).known = true) (w : List (List Int)) : findM f a (f.lots.length - k) w = findM f a (f.lots.length - (k + 1)) (w ++ [(lotAt f.lots k).perm]) := by
 obtain ⟨m, hm⟩ : ∃ m, f.lots.length - k = m + 1 := ⟨f.lots.length - k - 1, by omega⟩
 rw [hm, show f.lots.length - (k + 1) = m by omega]
 simp only [findM]
 rw [show f.lots.length - (m + 1) = k by omega]
 unfold permsOf
 rw [if_pos hkn]
 simp
theorem find_unk {f : Flow} {a : List Int} {k : Nat} (hk : k < f.lots.length) (hkn : (lotAt f.lots k).known = false) (w : List (List Int)) : findM f a (f.lots.length - k) w = (permsL (lotAt f.lots k).ins.length).findSome? fun p => findM f a (f.lots.length - (k + 1)) (w ++ [p]) := by
 obtain ⟨m, hm⟩ : ∃ m, f.lots.length - k = m + 1 := ⟨f.lots.length - k - 1, by omega⟩
 rw [hm, show f.lots.length - (k + 1) = m by omega]
 simp only [findM]
 rw [show f.lots.length - (m + 1) = k by omega]
 unfold permsOf
 rw [if_neg (by simp [hkn])]
theorem some_at {α : Type} {L : List (List Int)} {g : List Int → Option α} : ∀ {i : Nat}, i < L.length → (∀ j, j < i → g (rowAt L j) = none) → ∀ {u}, g (rowAt L i) = some u → L.findSome? g = some u := by
 induction L with
 | nil => intro i hi; simp at hi
 | cons x L ih =>
  intro i hi hn u hu
  cases i with
  | zero =>
   have hx : g x = some u := hu
   simp [List.findSome?_cons, hx]
  | succ i =>
   have hx : g x = none := hn 0 (by omega)
   rw [List.findSome?_cons, hx]
   exact ih (i := i) (by simpa using hi) (fun j hj => hn (j + 1) (by omega)) hu
theorem none_at {α : Type} {L : List (List Int)} {g : List Int → Option α} (h : ∀ j, j < L.length → g (rowAt L j) = none) : L.findSome? g = none := by
 rw [List.findSome?_eq_none_iff]
 intro x hx
 obtain ⟨j, hj, rfl⟩ := memE_row hx
 exact h j hj
set_option maxHeartbeats 4000000 in
set_option maxRecDepth 100000 in
theorem find_last (E : EnvM) (hE : E.Ok) (hc : checkE E.f = 0) (hal : (E.a.length : Int) = E.f.senders) : FindC E E.f.lots.length := by
 intro W K v ws w hS hx hw ho hg
 have HS := Lib.hid hS
 have HL : Hid (findM E.f E.a (E.f.lots.length - E.f.lots.length) w = some w) := Lib.hid (by
  rw [Nat.sub_self]
  simp only [findM]
  rw [if_pos ((leads_good hc hal).2 hg)])
 have HX := Lib.hid hx
 obtain ⟨bL, offL, capL, ⟨aL, hvl, hL1, hL2, hL3⟩, hL4, hL5⟩ := hS.flow
 obtain ⟨vF0, A0, R0, M0, g1, g2, g3, g4, g5, g6, _⟩ := hS.lots.lay
 have hk2 := (checkE_ok hc).2.2.1
 have m1 := hS.cx.cell
 have m2 := g5.cell 0
 simp at m2
 rw [hvl] at m2
 clear g1 g2 g3 g4 g5 g6 hL3 hL5 hS hx
 go_enter Try.func34, Try.ntmps34
 go_upto_region 1 with fail
 refine wp_name (fun W1 hW1 => ?_)
 have HB1 : Hid (Below W.heap.size W W1) := Lib.hid (by rw [hW1]; exact (box_below' W _).trans ((box_below' _ _).mono (by simp)))
 have HCR : Hid (Cell1 W1 (W.heap.size + 1) (.bool false)) := Lib.hid (by
  rw [hW1]
  have h := Cell1.new (W.alloc (.cells #[.int .i64 (E.f.lots.length : Int)] 3)) (.bool false) 4
  rw [World.size_alloc] at h
  exact h)
 have m3 := (Box.new W #[.int .i64 (E.f.lots.length : Int)] 3)
 have HK1 : Hid (Box W1 W.heap.size #[.int .i64 (E.f.lots.length : Int)]) := Lib.hid (by rw [hW1]; exact (Box.new W _ _).alloc _)
 have m4 := HK1.out.2
 have m5 := (HS.out.ext hE HB1.out).cx.cell
 have m6 := (HB1.out.cell (p := ⟨E.q0, 0, none⟩) (by have := HS.out.sz; have := hE.x1; obtain ⟨_, _, _, _, g1, _⟩ := HS.out.lots.lay; show E.q0 < _; omega)).trans m2
 have fz := HCR.out.free
 have cc := HCR.out.cell
 have HST := Lib.hid (fun n => (HCR.out.below (B := W1.heap.size) (w' := W1.drewN n) (below_drewN (Below.refl _ _) _) HCR.out.lt).set (.bool true))
 have HBX := Lib.hid (fun n => (HB1.out.trans ((below_drewN (Below.refl _ W1) n).mono HB1.out.size)).setCell (p := ⟨W.heap.size + 1, 0, none⟩) (by show W.heap.size ≤ W.heap.size + 1; omega) (.bool true))
 clear hW1 m3 m2
 go_wp2
 go_quiet (fail)
 go_wp2
 have hcl := fun n => (HST.out n).cell
 refine bodyPost_ret (v := .bool true) (by simp [results, Try.results34, go_sem, hcl]) rfl ?_
 rw [HL.out]
 have key : ∀ n, FPost E K (fun q => q < E.B) v E.f.lots.length ws w W (some w) (.returned (.bool true)) ((W1.drewN n).setCell ⟨W.heap.size + 1, 0, none⟩ (.bool true)) := fun n => by
  have hS2 := HS.out.ext hE (HBX.out n)
  refine ⟨rfl, v, hS2, MapKeep.ext _ (HBX.out n), Turned.of_below (HBX.out n), fun g e => .inl e, fun u hu => ?_⟩
  cases hu
  obtain ⟨a, n, cap, e, _, hv⟩ := hS2.way
  obtain ⟨a', cap', e'⟩ := HX.out
  rw [e] at e'
  cases e'
  rw [e]
  exact ⟨ws, hv.mono (fun q hq _ => .inl hq)⟩
 exact key _
set_option maxHeartbeats 8000000 in
set_option maxRecDepth 100000 in
theorem find_step (E : EnvM) (hE : E.Ok) (hc : checkE E.f = 0) (hal : (E.a.length : Int) = E.f.senders) (ha64 : ∀ x ∈ E.a, I64 x) (k : Nat) (hk : k < E.f.lots.length) (hn : FindC E (k + 1)) : FindC E k := by
 intro W K v ws w hS hx hw ho hg
 have HS := Lib.hid hS
 have HX := Lib.hid hx
 have HNX := Lib.hid hn
 obtain ⟨h0, h64, hl2, hb5, hlo⟩ := checkE_ok hc
 have HLB := Lib.hid (lotB_parts (lotsB_lot hlo hk))
 have hsz := hS.sz
 obtain ⟨b, off, capL, ⟨aL, hvl, hL1, hL2, hL3⟩, hL4, hL5⟩ := hS.flow
 obtain rfl : aL = some ⟨b, off, none⟩ := by rcases hL3 with h | h; exact h; omega
 obtain ⟨vi, vk, vp, q1, q2, q3, hli, rfl, hlp⟩ := hL5 k hk
 obtain ⟨ai, ci, rfl⟩ := hli.form
 obtain ⟨ap, cp, rfl⟩ := hlp.form
 have HLP := Lib.hid hlp
 have HQ1 := Lib.hid q1
 have HQ2 := Lib.hid q2
 have HQ3 := Lib.hid q3
 obtain ⟨vF0, A0, R0, M0, g1, g2, g3, g4, g5, g6, _⟩ := hS.lots.lay
 have m1 := hS.cx.cell
 have m2 := g5.cell 0
 simp at m2
 rw [hvl] at m2
 have HM2 := Lib.hid m2
 have HQL : Hid (E.q0 < W.heap.size) := Lib.hid (by omega)
 have hni : (lotAt E.f.lots k).ins.length ≤ 50000 := ins_small hc hk
 have HNI := Lib.hid hni
 have hn1 : 1 ≤ (lotAt E.f.lots k).ins.length := by
  have h := HLB.out.1
  cases e : (lotAt E.f.lots k).ins with
  | nil => exact absurd e h
  | cons x l => simp
 have hmf := @run_makeFunc_any Try.prog
 clear g1 g2 g3 g4 g5 g6 hL3 hL5 hS hx hn q1 q2 q3 hli hlp m1 m2
 refine callsIn_wide.1 (callsIn_of_wp_marks (n := 11) Try.func34 rfl trivial (wpIn_wide.2 ?_))
 simp only [Try.ntmps34, List.size_toArray, List.length_cons, List.length_nil, Nat.reduceAdd, Nat.reduceSub, Array.replicate_succ, Array.replicate_zero, List.push_toArray, List.append_toArray, List.nil_append, List.cons_append]
 go_upto_region 1 with fail
 refine wp_name (fun W1 hW1 => ?_)
 have HB1 : Hid (Below W.heap.size W W1) := Lib.hid (by rw [hW1]; exact (box_below' W _).trans ((box_below' _ _).mono (by simp)))
 have HCR : Hid (Cell1 W1 (W.heap.size + 1) (.bool false)) := Lib.hid (by
  rw [hW1]
  have h := Cell1.new (W.alloc (.cells #[.int .i64 (k : Int)] 3)) (.bool false) 4
  rw [World.size_alloc] at h
  exact h)
 have HK1 : Hid (Box W1 W.heap.size #[.int .i64 (k : Int)]) := Lib.hid (by rw [hW1]; exact (Box.new W _ _).alloc _)
 have HZ1 : Hid (W1.heap.size = W.heap.size + 1 + 1) := Lib.hid (by rw [hW1]; simp)
 have HRD : Hid (∀ W', Below W1.heap.size W1 W' → W'.cell? ⟨E.cx, 0, none⟩ = some (.pointer (some ⟨E.q0, 0, none⟩)) ∧ W'.cell? ⟨E.q0, 0, none⟩ = some (.slice (some ⟨b, off, none⟩) E.f.lots.length capL) ∧ W'.cell? ⟨b, off + k * 3, none⟩ = some (.slice ai (lotAt E.f.lots k).ins.length ci) ∧ W'.cell? ⟨b, off + k * 3 + 1, none⟩ = some (.bool (lotAt E.f.lots k).known) ∧ W'.cell? ⟨b, off + k * 3 + 2, none⟩ = some (.slice ap (lotAt E.f.lots k).perm.length cp) ∧ W'.cell? ⟨W.heap.size, 0, none⟩ = some (.int .i64 (k : Int))) := Lib.hid (fun W' h => by
  have hb : Below W.heap.size W W' := HB1.out.trans (h.mono HB1.out.size)
  have h1 := hE.x1; have h2 := hE.o1; have h3 := hE.o2; have h4 := hE.o3
  have hBW : E.B ≤ W.heap.size := by omega
  refine ⟨(HS.out.ext hE hb).cx.cell, (hb.cell (p := ⟨E.q0, 0, none⟩) HQL.out).trans HM2.out, (HQ1.out.below (hb.mono hBW) (Nat.le_refl _)).2, (HQ2.out.below (hb.mono hBW) (Nat.le_refl _)).2, (HQ3.out.below (hb.mono hBW) (Nat.le_refl _)).2, ?_⟩
  have := (HK1.out.ext h).2 0
  simpa using this)
 have hne : ((k : Int) == (E.f.lots.length : Int)) = false := by simp; omega
 have hne2 : (k == E.f.lots.length) = false := by simp; omega
 obtain ⟨m1, m2, m3, m4, m5, m6⟩ := HRD.out W1 (Below.refl _ _)
 have HE := Lib.hid hE
 clear hW1 hE
 go_wp2
 go_quiet (fail)
 clear m1 m2 m3 m4 m5 m6
 go_upto_region 3 with fail
 refine wp_name (fun W2 hW2 => ?_)
 have HB2 : Hid (Below W1.heap.size W1 W2) := Lib.hid (by rw [hW2]; exact below_drewN (Below.refl _ _) _)
 have HZ2 : Hid (W2.heap.size = W.heap.size + 1 + 1) := Lib.hid (by rw [hW2]; exact HZ1.out)
 clear hW2
 go_upto_region 4 with fail
 refine wp_name (fun W3 hW3 => ?_)
 have HB3 : Hid (Below W1.heap.size W1 W3) := Lib.hid (by rw [hW3]; exact HB2.out.alloc HB2.out.size _)
 have HCT : Hid (Cell1 W3 W2.heap.size (.func (.func 35) #[] #[.pointer (some ⟨E.cx, 0, none⟩), .pointer (some ⟨W.heap.size, 0, none⟩), .pointer (some ⟨E.ca, 0, none⟩), .pointer (some ⟨E.cw, 0, none⟩), .pointer (some ⟨E.cf, 0, none⟩)])) := Lib.hid (by rw [hW3]; exact Cell1.new _ _ _)
 rw [HZ2.out] at HCT ⊢
 clear hW3 HB2 HZ2
 obtain ⟨m1, m2, m3, m4, m5, m6⟩ := HRD.out W3 HB3.out
 cases hkn : (lotAt E.f.lots k).known
 ·rw [hkn] at m4
  have HFU := Lib.hid (find_unk (a := E.a) hk hkn w)
  have HPM : Hid (∀ p, p ∈ permsL (lotAt E.f.lots k).ins.length → p ∈ permsOf (lotAt E.f.lots k)) := Lib.hid (fun p h => by unfold permsOf; rw [if_neg (by simp [hkn])]; exact h)
  go_wp2
  go_quiet (fail)
  clear m1 m2 m3 m4 m5 m6
  go_upto_region 6 with fail
  refine wp_name (fun W4 hW4 => ?_)
  have HB4 : Hid (Below W1.heap.size W1 W4) := Lib.hid (by rw [hW4]; exact HB3.out.trans (below_drewN (Below.refl _ _) _))
  have HCT4 : Hid (Cell1 W4 (W.heap.size + 1 + 1) (.func (.func 35) #[] #[.pointer (some ⟨E.cx, 0, none⟩), .pointer (some ⟨W.heap.size, 0, none⟩), .pointer (some ⟨E.ca, 0, none⟩), .pointer (some ⟨E.cw, 0, none⟩), .pointer (some ⟨E.cf, 0, none⟩)])) := Lib.hid (by rw [hW4]; exact HCT.out)
  clear hW4
  obtain ⟨m1, m2, m3, m4, m5, m6⟩ := HRD.out W4 HB4.out
  go_wp2
  go_still_tail 9, (by kernel_rfl)
  change wpList _ _ _ _ _ W4.drew
  go_wp2_with (go_at_call 36; refine (eperms_any _ _).mono ?_; rintro e W5 ⟨rfl, hW5⟩; have HW5 := Lib.hid hW5; clear hW5)
  have hW5 := HW5.out
  have HBW5 : Hid (Below W.heap.size W W5) := Lib.hid (by
   have h := HB1.out.trans (HB4.out.mono HB1.out.size)
   have h2 : Below W.heap.size W W4.drew := ⟨h.os, h.tape, h.output, h.size, h.block⟩
   rw [hW5]
   exact h2.alloc h2.size _)
  have HB15 : Hid (Below W1.heap.size W1 W5) := Lib.hid (by
   have h2 : Below W1.heap.size W1 W4.drew := ⟨HB4.out.os, HB4.out.tape, HB4.out.output, HB4.out.size, HB4.out.block⟩
   rw [hW5]
   exact h2.alloc h2.size _)
  have HCT5 : Hid (Cell1 W5 (W.heap.size + 1 + 1) (.func (.func 35) #[] #[.pointer (some ⟨E.cx, 0, none⟩), .pointer (some ⟨W.heap.size, 0, none⟩), .pointer (some ⟨E.ca, 0, none⟩), .pointer (some ⟨E.cw, 0, none⟩), .pointer (some ⟨E.cf, 0, none⟩)])) := Lib.hid (by rw [hW5]; exact Cell1.alloc (w := W4.drew) HCT4.out _)
  have HBN5 : Hid (Box W5 W4.heap.size #[.int .i64 ((lotAt E.f.lots k).ins.length : Int)]) := Lib.hid (by rw [hW5]; exact Box.new W4.drew _ _)
  have HZ4 : Hid (W.heap.size + 1 + 1 < W4.heap.size) := Lib.hid HCT4.out.lt
  have HZ5 : Hid (W5.heap.size = W4.heap.size + 1) := Lib.hid (by rw [hW5]; simp)
  obtain ⟨bn, hbn⟩ : ∃ x, W4.heap.size = x := ⟨_, rfl⟩
  try simp only [drew_size]
  rw [hbn] at HBN5 HZ4 HZ5 ⊢
  clear hW5 HW5 hbn m1 m2 m3 m4 m5 m6 HCT4
  obtain ⟨L, hL⟩ : ∃ x, permsL (lotAt E.f.lots k).ins.length = x := ⟨_, rfl⟩
  have HIT := Lib.hid (eperms_iter bn (lotAt E.f.lots k).ins.length W5 hn1 hni HBN5.out)
  rw [hL] at HIT HFU HPM
  have hsz5 := HBW5.out.size
  have HNUM : Hid (E.C ≤ W.heap.size ∧ E.bm < E.C ∧ E.cw < E.C ∧ E.B < E.C + 1 ∧ E.B ≤ E.bm ∧ E.B ≤ E.cw) := Lib.hid (by have h1 := HE.out.x1; have h2 := HE.out.o1; have h3 := HE.out.o2; have h4 := HE.out.o3; have h5 := HE.out.x3; omega)
  have HOW := Lib.hid HS.out.own
  have HNN := Lib.hid HS.out.nn
  obtain ⟨II, hII⟩ : ∃ I : Nat → Nat → World → Prop, I = (fun st i W' => ∃ v', FindS E K v' k ws w W' ∧ MapKeep W W' E.bm (beforeI E.f k) ∧ Turned (fun q => q = E.bm ∨ q = E.cw ∨ v.ownBlock = some q) W W' ∧ (∀ g, v'.ownBlock = some g → v.ownBlock = some g ∨ st ≤ g) ∧ Cell1 W' (W.heap.size + 1) (.bool false) ∧ Cell1 W' (W.heap.size + 1 + 1) (.func (.func 35) #[] #[.pointer (some ⟨E.cx, 0, none⟩), .pointer (some ⟨W.heap.size, 0, none⟩), .pointer (some ⟨E.ca, 0, none⟩), .pointer (some ⟨E.cw, 0, none⟩), .pointer (some ⟨E.cf, 0, none⟩)]) ∧ Box W' W.heap.size #[.int .i64 (k : Int)] ∧ ∀ j, j < i → findM E.f E.a (E.f.lots.length - (k + 1)) (w ++ [rowAt L j]) = none) := ⟨_, rfl⟩
  obtain ⟨IX, hIX⟩ : ∃ I : Code → Nat → Nat → World → Prop, I = (fun c st i W' => c = .ret ∧ ∃ v' u, FindS E K v' k ws w W' ∧ MapKeep W W' E.bm (beforeI E.f k) ∧ Turned (fun q => q = E.bm ∨ q = E.cw ∨ v.ownBlock = some q) W W' ∧ (∀ g, v'.ownBlock = some g → v.ownBlock = some g ∨ st ≤ g) ∧ Cell1 W' (W.heap.size + 1) (.bool true) ∧ WayAt (fun q => K q ∨ q < E.B ∨ st ≤ q) E.C W' v' u ∧ findM E.f E.a (E.f.lots.length - k) w = some u) := ⟨_, rfl⟩
  -- what the iterator's own blocks turn
  have HKP : Hid (∀ (X : Nat → Prop) (v' : Value) (A A' : World), FindS E K v' k ws w A → MapKeep W A E.bm (beforeI E.f k) → Turned (fun q => q = E.bm ∨ q = E.cw ∨ v.ownBlock = some q) W A → Turned X A A' → (∀ q, X q → W.heap.size ≤ q ∧ v'.ownBlock ≠ some q) →
    FindS E K v' k ws w A' ∧ MapKeep W A' E.bm (beforeI E.f k) ∧ Turned (fun q => q = E.bm ∨ q = E.cw ∨ v.ownBlock = some q) W A') := Lib.hid (fun X v' A A' h1 h2 h3 ht hX => by
   have hn := HNUM.out
   obtain ⟨al, m1, m2⟩ := h1.mp
   have m3 : ∀ al, IntMap A E.bm al → IntMap A' E.bm al := fun al h => h.turned ht (fun hx => by have := (hX _ hx).1; omega)
   refine ⟨h1.turnedW HE.out ht (fun q q1 q2 hx => by have := (hX _ hx).1; omega) (fun q q1 q2 q3 hx => by have := (hX _ hx).1; have := (HNN.out q q2).2; omega) (fun q e hx => (hX q hx).2 e) (m3 al m1) m2, fun al2 ha2 => ?_, h3.transE ht (fun q hq hx => by have := (hX _ hx).1; omega)⟩
   obtain ⟨al', a1, a2⟩ := h2 al2 ha2
   exact ⟨al', m3 al' a1, a2⟩)
  clear hL hsz5
  refine (wpIn_wide (n := 11)).1 ?_
  refine range_lawS (w := W5) rfl (enters_of Try.func56 (by kernel_rfl) rfl) HIT.out (Turned.refl _ _)
   (fun q hq => by rw [hq]; exact HBN5.out.1) (fun q => q = E.bm ∨ q = E.cw ∨ v.ownBlock = some q ∨ q = W.heap.size + 1) (fun q hq => by
    have hn := HNUM.out
    have hz := HZ4.out
    have hz5 := HZ5.out
    rcases hq with e | e | e | e
    ·omega
    ·omega
    ·have := (HOW.out q e).2; omega
    ·omega)
   (fun s i W' args h => by obtain ⟨vp, h, _⟩ := h; rw [h]; rfl) II IX ?hI ?hIx ?h0 ?hround ?hdone ?hstop
  case hI =>
   subst hII
   rintro st i A A' hs ⟨v', h1, h2, h3, h4, h5, h6, h7, h8⟩ ht
   have hz := HZ4.out
   have hz5 := HZ5.out
   obtain ⟨g1, g2, g3⟩ := HKP.out _ v' A A' h1 h2 h3 ht (fun q hq => ⟨by omega, fun e => by rcases h4 q e with e2 | e2; (have := (HOW.out q e2).2; omega); omega⟩)
   exact ⟨v', g1, g2, g3, h4, h5.turned ht (fun h => by omega), h6.turned ht (fun h => by omega), h7.turned ht (fun h => by omega), h8⟩
  case hIx =>
   subst hIX
   rintro c st i A A' hs ⟨rfl, v', u, h1, h2, h3, h4, h5, ⟨vals, hv⟩, h7⟩ ht
   have hz := HZ4.out
   have hz5 := HZ5.out
   have hn := HNUM.out
   have hno : ∀ q, v'.ownBlock = some q → ¬ (W5.heap.size ≤ q ∧ q < st) := fun q e h => by rcases h4 q e with e2 | e2; (have := (HOW.out q e2).2; omega); omega
   obtain ⟨g1, g2, g3⟩ := HKP.out _ v' A A' h1 h2 h3 ht (fun q hq => ⟨by omega, fun e => hno q e hq⟩)
   exact ⟨rfl, v', u, g1, g2, g3, h4, h5.turned ht (fun h => by omega), ⟨vals, hv.turned ht (fun q hq _ hx => by rcases hq with hq | hq | hq; (have := (HNN.out q hq).2; omega); omega; omega) hno⟩, h7⟩
  case h0 =>
   subst hII
   intro st W1' hs hs1 hb
   have hbw : Below W.heap.size W W1' := HBW5.out.trans (hb.mono HBW5.out.size)
   have hb15 : Below W1.heap.size W1 W1' := HB15.out.trans (hb.mono HB15.out.size)
   exact ⟨v, HS.out.ext HE.out hbw, MapKeep.ext _ hbw, Turned.of_below hbw, fun g e => .inl e, HCR.out.ext hb15, HCT5.out.ext hb, HK1.out.ext hb15, fun j hj => by omega⟩
  case hround =>
   subst hII
   subst hIX
   rintro l st i W' args hs hsW hi ⟨v', h1, h2, h3, h4, h5, h6, h7, h8⟩ ⟨vp, rfl, hvp⟩
   have hz := HZ4.out
   have hz5 := HZ5.out
   have hn := HNUM.out
   have HWS : Hid (st ≤ W'.heap.size) := Lib.hid hsW
   gi_wp2
   refine ⟨Below.refl _ _, fun W2 ht => ?_⟩
   have hno : ∀ q, v'.ownBlock = some q → ¬ (W5.heap.size ≤ q ∧ q < W5.heap.size + 2) := fun q e h => by rcases h4 q e with e2 | e2; (have := (HOW.out q e2).2; omega); omega
   obtain ⟨g1, g2, g3⟩ := HKP.out _ v' W' W2 h1 h2 h3 ht (fun q hq => ⟨by omega, fun e => hno q e hq⟩)
   have HK5 : Hid (Cell1 W2 (W.heap.size + 1) (.bool false)) := Lib.hid (h5.turned ht (fun h => by omega))
   have HK6 := Lib.hid (h6.turned ht (fun h => by omega))
   have HK7 := Lib.hid (h7.turned ht (fun h => by omega))
   have hov := hvp.turned ht (fun q hq h => by omega)
   have HS2 : Hid (st ≤ W2.heap.size) := Lib.hid (by have := ht.size; have := HWS.out; omega)
   have hpm : rowAt L i ∈ L := rowE_mem hi
   have HNO : Hid (∀ j, j < i → findM E.f E.a (E.f.lots.length - (k + 1)) (w ++ [rowAt L j]) = none) := Lib.hid h8
   have HSA := Lib.hid (fun u (h : findM E.f E.a (E.f.lots.length - (k + 1)) (w ++ [rowAt L i]) = some u) => some_at (g := fun p => findM E.f E.a (E.f.lots.length - (k + 1)) (w ++ [p])) hi h8 h)
   have HROW : Hid (∀ x, findM E.f E.a (E.f.lots.length - (k + 1)) (w ++ [rowAt L i]) = x → findM E.f E.a (E.f.lots.length - (k + 1)) (w ++ [rowAt L i]) = x) := Lib.hid (fun _ h => h)
   obtain ⟨p, hp⟩ : ∃ x, rowAt L i = x := ⟨_, rfl⟩
   have HPE := Lib.hid hp
   rw [hp] at hov hpm HSA
   have hvx : IsIntsX (fun q => (q < E.B ∨ (st ≤ q ∧ q < W2.heap.size)) ∧ v'.ownBlock ≠ some q) W2 vp p := by
    obtain ⟨a, n, cap, hve, _, hwv⟩ := g1.way
    have e3 : (Value.slice a k cap).ownBlock = v'.ownBlock := by rw [hve]; cases a <;> rfl
    have hap := hov.apartW hwv
    obtain ⟨b', o', c', e1, e2, e4, e5⟩ := hov.intsS
    refine ⟨b', o', c', e1, e2, e4, fun j hj => ?_⟩
    obtain ⟨x1, x2⟩ := e5 j hj
    have hlt := hov.ltX b' x1
    exact ⟨⟨.inr hlt, fun e => hap b' x1 (e3.trans e)⟩, hlt.2, x2⟩
   have HTRY := Lib.hid (try_any E HE.out k hk hc hal ha64 HNX.out W2 K (fun q => q < E.B ∨ (st ≤ q ∧ q < W2.heap.size)) v' ws w vp p W.heap.size g1 hw ho hg (HPM.out p hpm)
    (fun q hq => by have hs2 := HS2.out; rcases hq with hq | hq; exact ⟨.inl hq, by omega⟩; exact ⟨.inr (by omega), hq.2⟩) (fun q hq => .inl hq) hvx HK7.out hsz (fun e => by rcases h4 _ e with e2 | e2; (have := (HOW.out _ e2).2; omega); omega))
   have HG1 := Lib.hid g1
   have HG2 := Lib.hid g2
   have HG3 := Lib.hid g3
   have HOV : Hid (∀ g, v'.ownBlock = some g → v.ownBlock = some g ∨ st ≤ g) := Lib.hid h4
   have HNW : Hid (W5.heap.size + 2 ≤ st) := Lib.hid hs
   obtain ⟨a5, n5, c5, rfl⟩ := hov.form'
   have m7 := HK6.out.cell
   -- how the world behind the call stands to the others
   have HEND : Hid (∀ (r : Option (List (List Int))) e W3, FPost E K (fun q => q < E.B ∨ (st ≤ q ∧ q < W2.heap.size)) v' k ws w W2 r e W3 → ∃ v2, FindS E K v2 k ws w W3 ∧ MapKeep W W3 E.bm (beforeI E.f k) ∧ Turned (fun q => q = E.bm ∨ q = E.cw ∨ v.ownBlock = some q) W W3 ∧ Turned (fun q => (q = E.bm ∨ q = E.cw ∨ v.ownBlock = some q ∨ q = W.heap.size + 1) ∨ st ≤ q) W2 W3 ∧
     (∀ g, v2.ownBlock = some g → v.ownBlock = some g ∨ st ≤ g) ∧ Cell1 W3 (W.heap.size + 1) (.bool false) ∧ Cell1 W3 (W.heap.size + 1 + 1) (.func (.func 35) #[] #[.pointer (some ⟨E.cx, 0, none⟩), .pointer (some ⟨W.heap.size, 0, none⟩), .pointer (some ⟨E.ca, 0, none⟩), .pointer (some ⟨E.cw, 0, none⟩), .pointer (some ⟨E.cf, 0, none⟩)]) ∧ Box W3 W.heap.size #[.int .i64 (k : Int)] ∧ ∀ u, r = some u → WayAt (fun q => K q ∨ q < E.B ∨ st ≤ q) E.C W3 v2 u) := Lib.hid (by
    rintro r e W3 ⟨_, v2, q1, q2, q3, q4, q5⟩
    have hs2 := HS2.out
    have hw5 := HNW.out
    have hout : ∀ q, W.heap.size ≤ q → q < st → ¬ (q = E.bm ∨ q = E.cw ∨ v'.ownBlock = some q) := fun q a1 a2 h => by
     have hn := HNUM.out
     rcases h with h | h | h
     ·omega
     ·omega
     ·rcases HOV.out q h with e2 | e2
      ·have := (HOW.out q e2).2; omega
      ·omega
    refine ⟨v2, q1, fun al ha => ?_, HG3.out.transE q3 (fun q hq h => ?_), q3.mono (fun q _ h => ?_), fun g e => ?_, HK5.out.turned q3 (hout _ (by omega) (by omega)), HK6.out.turned q3 (hout _ (by omega) (by omega)), HK7.out.turned q3 (hout _ (by omega) (by omega)), fun u hu => ?_⟩
    ·obtain ⟨al1, a1, a2⟩ := HG2.out al ha
     obtain ⟨al2, b1, b2⟩ := q2 al1 a1
     exact ⟨al2, b1, fun x hx => (b2 x hx).trans (a2 x hx)⟩
    ·rcases h with h | h | h
     ·exact .inl h
     ·exact .inr (.inl h)
     ·rcases HOV.out q h with e2 | e2
      ·exact .inr (.inr e2)
      ·omega
    ·rcases h with h | h | h
     ·exact .inl (.inl h)
     ·exact .inl (.inr (.inl h))
     ·rcases HOV.out q h with e2 | e2
      ·exact .inl (.inr (.inr (.inl e2)))
      ·exact .inr e2
    ·rcases q4 g e with e2 | e2
     ·exact HOV.out g e2
     ·exact .inr (by omega)
    ·obtain ⟨vals, hv⟩ := q5 u hu
     refine ⟨vals, hv.mono (fun q hq _ => ?_)⟩
     rcases hq with hq | (hq | hq) | hq
     ·exact .inl hq
     ·exact .inr (.inl hq)
     ·exact .inr (.inr hq.1)
     ·exact .inr (.inr (by omega)))
   clear h1 h2 h3 h4 h5 h6 h7 h8 hvp hno ht g1 g2 g3 hov hvx hs hsW hn hpm hp
   cases hRR : findM E.f E.a (E.f.lots.length - (k + 1)) (w ++ [p]) with
   | none =>
    rw [hRR] at HTRY
    have HRN := Lib.hid hRR
    clear hRR
    gi_wp2_with (refine ⟨trivial, ?_⟩; gi_at_call 35; refine (CallsIn.inRound l (callsIn_wide.2 HTRY.out)).mono ?_; intro e W3 hpost; have HPO := Lib.hid (HEND.out _ _ _ hpost); have he : e = .returned (.bool false) := hpost.1; clear hpost; subst he)
    obtain ⟨v2, r1, r2, r3, r4, r5, r6, r7, r8, _⟩ := HPO.out
    refine ⟨r4, v2, r1, r2, r3, r5, r6, r7, r8, fun j hj => ?_⟩
    by_cases e : j = i
    ·subst e; rw [HPE.out]; exact HRN.out
    ·exact HNO.out j (by omega)
   | some u =>
    rw [hRR] at HTRY
    have HRN := Lib.hid (HSA.out u hRR)
    clear hRR
    gi_wp2_with (refine ⟨trivial, ?_⟩; gi_at_call 35; refine (CallsIn.inRound l (callsIn_wide.2 HTRY.out)).mono ?_; intro e W3 hpost; have HPO := Lib.hid (HEND.out _ _ _ hpost); have he : e = .returned (.bool true) := hpost.1; have hcr : Cell1 W3 (W.heap.size + 1) (.bool false) := (by obtain ⟨v2, r1, r2, r3, r4, r5, r6, _⟩ := HEND.out _ _ _ hpost; exact r6); have c6 := hcr.cell; have f6 := hcr.free; have HCR6 := Lib.hid hcr; clear hpost hcr; subst he)
    obtain ⟨v2, r1, r2, r3, r4, r5, r6, r7, r8, r9⟩ := HPO.out
    have ht4 : Turned (fun q => q = W.heap.size + 1) W3 (W3.setCell ⟨W.heap.size + 1, 0, none⟩ (.bool true)) := Turned.of_grown (grown_setCell W3 ⟨W.heap.size + 1, 0, none⟩ _) (fun q e => by simpa using e.symm)
    have hno4 : ∀ q, v2.ownBlock = some q → ¬ q = W.heap.size + 1 := fun q e e2 => by
     have hw5 := HNW.out
     rcases r5 q e with e3 | e3
     ·have := (HOW.out q e3).2; omega
     ·omega
    obtain ⟨s1, s2, s3⟩ := HKP.out _ v2 W3 _ r1 r2 r3 ht4 (fun q hq => ⟨by omega, fun e => hno4 q e hq⟩)
    obtain ⟨vals, hv⟩ := r9 u rfl
    refine ⟨r4.trans (ht4.mono (fun q _ e => .inl (.inr (.inr (.inr e))))), rfl, v2, u, s1, s2, s3, r5, HCR6.out.set _, ⟨vals, hv.other ht4 hno4 (fun q i z e => by subst e; exact HCR6.out.noInt i z)⟩, ?_⟩
    rw [HFU.out]
    exact HRN.out
  case hdone =>
   subst hII
   rintro d st W' hd hds hsW ⟨v', h1, h2, h3, h4, h5, h6, h7, h8⟩ hk
   have hz := HZ4.out
   have hz5 := HZ5.out
   have HD := Lib.hid hk
   have HC5 := Lib.hid h5
   have HALL : Hid (findM E.f E.a (E.f.lots.length - k) w = none) := Lib.hid (by rw [HFU.out]; exact none_at (g := fun p => findM E.f E.a (E.f.lots.length - (k + 1)) (w ++ [p])) h8)
   have HST : Hid (∃ v', FindS E K v' k ws w W' ∧ MapKeep W W' E.bm (beforeI E.f k) ∧ Turned (fun q => q = E.bm ∨ q = E.cw ∨ v.ownBlock = some q) W W' ∧ (∀ g, v'.ownBlock = some g → v.ownBlock = some g ∨ st ≤ g)) := Lib.hid ⟨v', h1, h2, h3, h4⟩
   have HDD : Hid (W5.heap.size ≤ d ∧ d < st) := Lib.hid ⟨hd, hds⟩
   have c6 := h5.cell
   have f6 := h5.free
   clear h1 h2 h3 h4 h5 h6 h7 h8 hk hd hds hsW
   go_wp2
   obtain ⟨v', h1, h2, h3, h4⟩ := HST.out
   have hdd := HDD.out
   have hdb : W.heap.size + 1 ≠ d := by omega
   have hK : (W'.setCell ⟨W.heap.size + 1, 0, none⟩ (.bool false)).heap[d]? = some (.deferred (some [])) := (Below.heap_setCell W' _ _ d (fun e => hdb e.symm)).trans HD.out
   refine ⟨by simp, .inl ⟨_, _, rfl, run_takeDeferred hK, ?_⟩⟩
   have hts : Turned (fun q => q = W.heap.size + 1 ∨ q = d) W' ((W'.setCell ⟨W.heap.size + 1, 0, none⟩ (.bool false)).putObj d (.deferred none)) :=
    (Turned.of_grown (grown_setCell W' ⟨W.heap.size + 1, 0, none⟩ (.bool false)) (fun q e => .inl (by simpa using e.symm))).trans (Turned.putObj _ _ _ (.inr rfl))
   have hcl : ((W'.setCell ⟨W.heap.size + 1, 0, none⟩ (.bool false)).putObj d (.deferred none)).cell? ⟨W.heap.size + 1, 0, none⟩ = some (.bool false) :=
    (World.cell?_of_block (World.putObj_heap_other (w := W'.setCell ⟨W.heap.size + 1, 0, none⟩ (.bool false)) hdb)).trans (HC5.out.set _).cell
   obtain ⟨s1, s2, s3⟩ := HKP.out _ v' W' _ h1 h2 h3 hts (fun q hq => ⟨by omega, fun e => by rcases h4 q e with e2 | e2; (have := (HOW.out q e2).2; omega); omega⟩)
   refine ⟨.bool false, by simp [results, Try.results34, go_sem, hcl], by rw [HALL.out]; rfl, v', s1, s2, s3, fun g e => by rcases h4 g e with e2 | e2; exact .inl e2; exact .inr (by omega), fun u hu => by rw [HALL.out] at hu; cases hu⟩
  case hstop =>
   subst hIX
   rintro d st i c W' hd hds hsW hi ⟨rfl, v', u, h1, h2, h3, h4, h5, ⟨vals, hv⟩, h7⟩ hk
   have hz := HZ4.out
   have hz5 := HZ5.out
   gi_wp2
   have hdb : W.heap.size + 1 ≠ d := by omega
   refine ⟨by simp, .inl ⟨_, _, rfl, run_takeDeferred hk, ?_⟩⟩
   have hts : Turned (fun q => q = d) W' (W'.putObj d (.deferred none)) := Turned.putObj _ _ _ rfl
   have hcl := (h5.turned hts hdb).cell
   have hno : ∀ q, v'.ownBlock = some q → ¬ q = d := fun q e e2 => by rcases h4 q e with e3 | e3; (have := (HOW.out q e3).2; omega); omega
   obtain ⟨s1, s2, s3⟩ := HKP.out _ v' W' _ h1 h2 h3 hts (fun q hq => ⟨by omega, fun e => hno q e hq⟩)
   refine ⟨.bool true, by simp [results, Try.results34, go_sem, hcl], by rw [h7]; rfl, v', s1, s2, s3, fun g e => by rcases h4 g e with e2 | e2; exact .inl e2; exact .inr (by omega), fun u' hu => ?_⟩
   rw [h7] at hu
   cases hu
   exact ⟨vals, (hv.turned hts (fun q hq _ e => by rcases hq with hq | hq | hq; (have := (HNN.out q hq).2; omega); (have := HNUM.out; omega); omega) hno).mono (fun q hq _ => by rcases hq with hq | hq | hq; exact .inl hq; exact .inr (.inl hq); exact .inr (.inr (by omega)))⟩
 ·rw [hkn] at m4
  go_wp2
  go_quiet (fail)
  clear m1 m2 m3 m4 m5 m6
  go_upto_region 5 with fail
  refine wp_name (fun W4 hW4 => ?_)
  have HB4 : Hid (Below W1.heap.size W1 W4) := Lib.hid (by rw [hW4]; exact HB3.out.trans (below_drewN (Below.refl _ _) _))
  have HCT4 : Hid (Cell1 W4 (W.heap.size + 1 + 1) (.func (.func 35) #[] #[.pointer (some ⟨E.cx, 0, none⟩), .pointer (some ⟨W.heap.size, 0, none⟩), .pointer (some ⟨E.ca, 0, none⟩), .pointer (some ⟨E.cw, 0, none⟩), .pointer (some ⟨E.cf, 0, none⟩)])) := Lib.hid (by rw [hW4]; exact HCT.out)
  clear hW4
  obtain ⟨m1, m2, m3, m4, m5, m6⟩ := HRD.out W4 HB4.out
  have m7 := HCT4.out.cell
  have HBW5 : Hid (Below W.heap.size W W4.drew) := Lib.hid (by have h := HB1.out.trans (HB4.out.mono HB1.out.size); exact ⟨h.os, h.tape, h.output, h.size, h.block⟩)
  have HK5 : Hid (Box W4.drew W.heap.size #[.int .i64 (k : Int)]) := Lib.hid (HK1.out.ext (w' := W4.drew) ⟨HB4.out.os, HB4.out.tape, HB4.out.output, HB4.out.size, HB4.out.block⟩)
  have HR5 : Hid (Cell1 W4.drew (W.heap.size + 1) (.bool false)) := Lib.hid (HCR.out.ext (w' := W4.drew) ⟨HB4.out.os, HB4.out.tape, HB4.out.output, HB4.out.size, HB4.out.block⟩)
  have HTRY := Lib.hid (try_any E HE.out k hk hc hal ha64 HNX.out W4.drew K (fun q => q < E.B) v ws w (.slice ap (lotAt E.f.lots k).perm.length cp) (lotAt E.f.lots k).perm W.heap.size (HS.out.ext HE.out HBW5.out) hw ho hg (by unfold permsOf; rw [if_pos hkn]; simp)
   (fun q hq => ⟨.inl hq, by have := HBW5.out.size; have h1 := HE.out.x1; have h2 := HE.out.o1; have h3 := HE.out.o2; have h4 := HE.out.o3; omega⟩) (fun q hq => hq)
   ((HLP.out.below (HBW5.out.mono (by have h1 := HE.out.x1; have h2 := HE.out.o1; have h3 := HE.out.o2; have h4 := HE.out.o3; omega)) (Nat.le_refl _)).kind (by have := HBW5.out.size; have h1 := HE.out.x1; have h2 := HE.out.o1; have h3 := HE.out.o2; have h4 := HE.out.o3; omega) (fun q hq => ⟨hq, fun e => by have := (HS.out.own q e).1; have h1 := HE.out.x1; have h2 := HE.out.o1; have h3 := HE.out.o2; have h4 := HE.out.o3; omega⟩))
   HK5.out hsz (fun e => by have := (HS.out.own _ e).2; omega))
  rw [← find_known hk hkn w] at HTRY
  go_wp2
  go_still_tail 9, (by kernel_rfl)
  change wpList _ _ _ _ _ W4.drew
  go_wp2_with (go_at_call 35; refine HTRY.out.mono ?_; intro e W6 hpost; have HPO := Lib.hid hpost; have he := hpost.1; have hR6 : Cell1 W6 (W.heap.size + 1) (.bool false) := (by obtain ⟨_, _, _, _, h3, _⟩ := hpost; exact HR5.out.turned h3 (fun e => by have h1 := HE.out.x3; have h2 := HE.out.o2; have h3 := HE.out.o3; rcases e with e | e | e; omega; omega; (have := (HS.out.own _ e).2; omega))); have HR6 := Lib.hid hR6; have r6 := hR6.cell; have f6 := hR6.free; clear hpost hR6; subst he)
  have hcl := (HR6.out.set (.bool (findM E.f E.a (E.f.lots.length - k) w).isSome)).cell
  refine ⟨.bool (findM E.f E.a (E.f.lots.length - k) w).isSome, by simp [results, Try.results34, go_sem, hcl], ?_⟩
  exact FPost.wrap HE.out (X := fun q => q = W.heap.size + 1) HS.out HBW5.out HPO.out (Turned.of_grown (grown_setCell W6 ⟨W.heap.size + 1, 0, none⟩ _) (fun q e => by simpa using e.symm)) (fun q e => by subst e; exact ⟨by omega, HR5.out.lt, fun i z => HR6.out.noInt i z⟩)
end Go.Proofs.Yteiaeaciaglmgaa
set_option linter.unusedVariables false
set_option linter.unusedSimpArgs false
namespace Go.Proofs.Yteiaeaciaglmgaa
open Go.RowKit
attribute [local go_sem] run_store_func
theorem find_all (E : EnvM) (hE : E.Ok) (hc : checkE E.f = 0) (hal : (E.a.length : Int) = E.f.senders) (ha64 : ∀ x ∈ E.a, I64 x) : ∀ m, m ≤ E.f.lots.length → FindC E (E.f.lots.length - m)
 | 0, _ => by rw [Nat.sub_zero]; exact find_last E hE hc hal
 | m + 1, hm => by
  refine find_step E hE hc hal ha64 _ (by omega) ?_
  rw [show E.f.lots.length - (m + 1) + 1 = E.f.lots.length - m by omega]
  exact find_all E hE hc hal ha64 m (by omega)
/-- the ends of the first i senders -/
def begL (zs : List Int) : Nat → AL
 | 0 => []
 | i + 1 => aset (begL zs i) (i : Int) (.int .i64 (nth zs i))
theorem beg_at {zs : List Int} : ∀ {i t : Nat}, t < i → alook (begL zs i) (t : Int) = some (.int .i64 (nth zs t))
 | i + 1, t, h => by
  simp only [begL]
  rw [alook_aset]
  by_cases e : t = i
  ·subst e; rw [if_pos rfl]
  ·rw [if_neg (by omega), beg_at (by omega)]
theorem make_bad {f : Flow} {zs : List Int} (he : errX f zs = 0) {i : Nat} (hi : i < zs.length) (hl : leadE f (i : Int) (nth zs i) = false) : makeB f zs = false ∧ makeR f zs = [] := by
 obtain ⟨hc, _, ha⟩ := errX_ok he
 obtain ⟨h0, _, _, h5, hlo⟩ := checkE_ok hc
 have hm := beforeI_mono (f := f) (Nat.zero_le f.lots.length)
 have hb : beforeI f 0 = f.senders := rfl
 rw [lead_rAt hc (by omega) (by omega)] at hl
 have h : makeO f zs = none := by
  unfold makeO
  rw [if_pos he]
  have := find_none (a := zs) hc ha (m := f.lots.length) (w := []) (Nat.le_refl _) (by simp) (fun j hj => by omega) (fun hg => by
   rw [Nat.sub_self] at hg
   have := hg i (by omega)
   rw [pos_zero, hl] at this
   cases this)
  exact this
 unfold makeB makeR
 rw [h]
 exact ⟨rfl, rfl⟩
theorem make_good {f : Flow} {zs : List Int} (he : errX f zs = 0) (h : ∀ i, i < zs.length → leadE f (i : Int) (nth zs i) = true) : GoodAt f zs [] 0 := by
 obtain ⟨hc, _, ha⟩ := errX_ok he
 obtain ⟨h0, _, _, h5, hlo⟩ := checkE_ok hc
 have hm := beforeI_mono (f := f) (Nat.zero_le f.lots.length)
 have hb : beforeI f 0 = f.senders := rfl
 intro i hi
 have := h i (by omega)
 rw [lead_rAt hc (by omega) (by omega)] at this
 exact this
set_option maxHeartbeats 8000000 in
set_option maxRecDepth 100000 in
/-- explain.Make -/
theorem emake_any (B : Nat) (w : World) (vs vl va : Value) (f : Flow) (zs : List Int) (hf : IsFlow B w vs vl f) (hx : IsInts B w va zs) (hB : B ≤ w.heap.size) :
  Calls Try.prog 11 #[.agg #[vs, vl], va] w fun e w' => ∃ v, e = .returned (.tuple #[v, .bool (makeB f zs), .int .i64 (errX f zs)]) ∧ IsMat w'.heap.size w' v (makeR f zs) ∧ Below w.heap.size w w' := by
 have HF := Lib.hid hf
 have HZ := Lib.hid hx
 obtain ⟨rfl, ⟨hs1, hs2⟩, hl⟩ := hf
 obtain ⟨b, off, cap, ⟨a, rfl, hcap, hmax, ha⟩, hlen, hc⟩ := hl
 obtain ⟨az, cz, rfl⟩ := hx.form
 obtain ⟨ER, hER⟩ : ∃ x, errX f zs = x := ⟨_, rfl⟩
 have HER := Lib.hid hER
 obtain ⟨MB, hMB⟩ : ∃ x, makeB f zs = x := ⟨_, rfl⟩
 obtain ⟨MR, hMR⟩ : ∃ x, makeR f zs = x := ⟨_, rfl⟩
 have HMB := Lib.hid hMB
 have HMR := Lib.hid hMR
 rw [hER, hMB, hMR]
 have hmm := @run_makeMap Try.prog
 have hmf := @run_makeFunc_any Try.prog
 clear hc ha hx hER hMB hMR
 go_enter Try.func11, Try.ntmps11
 go_upto_region 1 with fail
 refine wp_name (fun W1 hW1 => ?_)
 have HX1 : Hid (Box W1 w.heap.size #[.int .i64 f.senders, .slice a f.lots.length cap]) := Lib.hid (by rw [hW1]; exact (Box.new w #[.int .i64 f.senders, .slice a f.lots.length cap] 24).alloc _)
 have HW1 : Hid (Below w.heap.size w W1) := Lib.hid (by rw [hW1]; exact (box_below' w _).trans ((box_below' _ _).mono (by simp)))
 have HR1 : Hid (Cell1 W1 (w.heap.size + 1) (.slice none 0 0)) := Lib.hid (by
  rw [hW1]
  have h := Cell1.new (w.alloc (.cells #[.int .i64 f.senders, .slice a f.lots.length cap] 24)) (.slice none 0 0) 26
  rw [World.size_alloc] at h
  exact h)
 clear hW1
 have x1 := HX1.out.2
 have HCH := Lib.hid (echeck_any B W1 _ _ _ f zs (HF.out.below HW1.out hB) (HZ.out.below HW1.out hB) (Nat.le_trans hB HW1.out.size))
 rw [HER.out] at HCH
 go_wp2_with fail
 refine HCH.out.mono ?_
 rintro e W2 ⟨rfl, hb2⟩
 have HB2 := Lib.hid hb2
 clear hb2
 have HX2 := Lib.hid (HX1.out.ext HB2.out)
 have HW2 : Hid (Below w.heap.size w W2) := Lib.hid (HW1.out.trans (HB2.out.mono HW1.out.size))
 have HR2 := Lib.hid (HR1.out.ext HB2.out)
 have x2 := HX2.out.2
 clear x1
 by_cases he : ER = 0
 ·have he1 : (ER != 0) = false := by simpa using he
  have hck0 : errX f zs = 0 := by rw [HER.out]; exact he
  obtain ⟨hc, hwy, hal⟩ := errX_ok hck0
  have HCK := Lib.hid hck0
  have HAL := Lib.hid hal
  clear hal
  obtain ⟨h0, h64, hl2, hb5, hlo⟩ := checkE_ok hc
  have HNL := Lib.hid (newLots_any B W2 _ _ f (HF.out.below HW2.out hB) (Nat.le_trans hB HW2.out.size) hc)
  have HEZ := Lib.hid he
  clear he
  go_upto_region 6 with (go_at_call 32; refine HNL.out.mono ?_; rintro e W3 ⟨q0, rfl, hlots, hb3⟩; have HLO := Lib.hid hlots; have HB23 := Lib.hid hb3; clear hlots hb3)
  refine wp_name (fun W5 hW5 => ?_)
  have HBX5 : Hid (Below W3.heap.size W3 W5) := Lib.hid (by rw [hW5]; exact (((box_below' W3 _).alloc (by simp) _).alloc (by simp; omega) _))
  have HCX : Hid (Cell1 W5 W3.heap.size (.pointer (some ⟨q0, 0, none⟩))) := Lib.hid (by rw [hW5]; exact ((Cell1.new W3 _ _).alloc _).alloc _)
  have HCA : Hid (Cell1 W5 (W3.heap.size + 1 + 1) (.map (some (W3.heap.size + 1)))) := Lib.hid (by
   rw [hW5]
   have h := Cell1.new ((W3.alloc (.cells #[.pointer (some ⟨q0, 0, none⟩)] 60)).alloc (.map #[] 0)) (.map (some (W3.heap.size + 1))) 62
   simp only [World.size_alloc] at h
   exact h)
  have HM5 : Hid (IntMap W5 (W3.heap.size + 1) []) := Lib.hid (by
   rw [hW5]
   have h := IntMap.made (W3.alloc (.cells #[.pointer (some ⟨q0, 0, none⟩)] 60))
   rw [World.size_alloc] at h
   exact h.alloc _)
  have HZ5 : Hid (W5.heap.size = W3.heap.size + 1 + 1 + 1) := Lib.hid (by rw [hW5]; simp)
  have HLO5 := Lib.hid (HLO.out.ext HBX5.out)
  have HW3 : Hid (Below w.heap.size w W3) := Lib.hid (HW2.out.trans (HB23.out.mono HW2.out.size))
  have HW5 : Hid (Below w.heap.size w W5) := Lib.hid (HW3.out.trans (HBX5.out.mono HW3.out.size))
  have HR5 := Lib.hid ((HR2.out.ext HB23.out).ext HBX5.out)
  have HNUM : Hid (w.heap.size + 1 < W2.heap.size ∧ W2.heap.size ≤ W3.heap.size) := Lib.hid ⟨HR2.out.lt, HB23.out.size⟩
  obtain ⟨s3, hs3⟩ : ∃ x, W3.heap.size = x := ⟨_, rfl⟩
  rw [hs3] at HCX HCA HM5 HZ5 HLO5 HNUM ⊢
  clear hW5 hs3 HLO HBX5 HB23 HX2 HX1 HR1 x2
  obtain ⟨bz, oz, cz', ⟨az', haz, hz1, hz2, hz3⟩, hz4, hz64, hzc⟩ := HZ.out
  obtain ⟨rfl, rfl⟩ : az = az' ∧ cz = cz' := by simpa using haz
  have HZC := Lib.hid hzc
  have HZ3 := Lib.hid hz3
  have HZ64 := Lib.hid hz64
  clear haz hz3 hz64 hzc
  go_wp2_with fail
  go_loopw [24] (fun i' wr => ∃ i : Nat, i ≤ zs.length ∧ i' = .int .i64 (i : Nat) ∧ Turned (fun q => q = s3 + 1) W5 wr ∧ IntMap wr (s3 + 1) (begL zs i) ∧ ∀ j, j < i → leadE f (j : Int) (nth zs j) = true) (fun i' _ => zs.length - (intOf i').toNat)
  case atStart => exact ⟨0, by omega, rfl, Turned.refl _ _, HM5.out, fun j hj => by omega⟩
  case round =>
   obtain ⟨i, hi, rfl, ht, hm, hled⟩ := hrel
   have HT := Lib.hid ht
   have HM := Lib.hid hm
   have HLED := Lib.hid hled
   have hnu := HNUM.out
   have c2 := (HCX.out.turned ht (by omega)).cell
   have c3 := (HCA.out.turned ht (by omega)).cell
   by_cases hil : i < zs.length
   ·obtain rfl : az = some ⟨bz, oz, none⟩ := by rcases HZ3.out with h | h; exact h; omega
    have hbz := (HZC.out i hil).1
    have c1 := (ht.cell (p := ⟨bz, oz + i, none⟩) (by have := HW5.out.size; show bz < _; omega) (fun e => by have e2 : bz = s3 + 1 := e; omega)).trans ((HW5.out.cell (p := ⟨bz, oz + i, none⟩) (by show bz < _; omega)).trans (HZC.out i hil).2)
    have HBG : Hid (begL zs (i + 1) = aset (begL zs i) (i : Int) (.int .i64 (nth zs i))) := Lib.hid rfl
    have HBAD := Lib.hid (fun h => make_bad (i := i) HCK.out hil h)
    obtain ⟨x, hx⟩ : ∃ x, nth zs i = x := ⟨_, rfl⟩
    have HXE := Lib.hid hx
    rw [hx] at c1 HBG HBAD
    obtain ⟨LE, hLE⟩ : ∃ y, leadE f (i : Int) x = y := ⟨_, rfl⟩
    have HLE := Lib.hid hLE
    rw [hLE] at HBAD
    have HTU : Hid (∀ w8, wr.grownBy w8 (some (s3 + 1)) → Turned (fun q => q = s3 + 1) W5 w8) := Lib.hid (fun w8 h => HT.out.trans (Turned.of_grown h (fun q e => by simpa using e.symm)))
    clear hx hLE ht hm hled hbz hnu
    cases LE
    ·obtain ⟨hb1, hb2⟩ := HBAD.out rfl
     rw [HMB.out] at hb1
     rw [HMR.out] at hb2
     go_wp2_with (first
      | (at_mapUpdate; refine wpList_update_ints (x := (i : Int)) (v := .int .i64 x) rfl _ _ _ rfl Try.underlying62 Try.underlying3 rfl HM.out rfl rfl ?_; intro w8 hs8 hg8 hz8; have HS8 := Lib.hid hs8; have HT8 := Lib.hid (HTU.out w8 hg8); clear hs8 hg8 hz8; have n2 := (HCX.out.turned HT8.out (by have := HNUM.out; omega)).cell)
      | (go_at_call 33; refine (leads_any _ _ _ q0 _ f _ _ (HLO5.out.turned HT8.out (fun q a1 a2 e => by omega)) hc).mono ?_; rintro e w9 ⟨rfl, rfl⟩; rw [HLE.out]; have HR8 := Lib.hid (HR5.out.turned HT8.out (by have := HNUM.out; omega)); have r8 := HR8.out.cell; have f8 := HR8.out.free; have hcl := (HR8.out.set (.slice none 0 0)).cell))
     refine bodyPost_ret (v := .tuple #[.slice none 0 0, .bool false, .int .i64 0]) (by simp [results, Try.results11, go_sem, hcl]) rfl ?_
     rw [hb1, hb2]
     exact ⟨.slice none 0 0, by rw [HEZ.out], ⟨0, 0, 0, ⟨none, rfl, Nat.le_refl _, by omega, .inr rfl⟩, by simp, fun j hj => by simp at hj⟩, (HW5.out.trans (HT8.out.below HW5.out.size (fun q hq e => by have := HNUM.out; omega))).setCell (p := ⟨w.heap.size + 1, 0, none⟩) (by show w.heap.size ≤ w.heap.size + 1; omega) _⟩
    ·go_wp2_with (first
      | (at_mapUpdate; refine wpList_update_ints (x := (i : Int)) (v := .int .i64 x) rfl _ _ _ rfl Try.underlying62 Try.underlying3 rfl HM.out rfl rfl ?_; intro w8 hs8 hg8 hz8; have HS8 := Lib.hid hs8; have HT8 := Lib.hid (HTU.out w8 hg8); clear hs8 hg8 hz8; have n2 := (HCX.out.turned HT8.out (by have := HNUM.out; omega)).cell)
      | (go_at_call 33; refine (leads_any _ _ _ q0 _ f _ _ (HLO5.out.turned HT8.out (fun q a1 a2 e => by omega)) hc).mono ?_; rintro e w9 ⟨rfl, rfl⟩; rw [HLE.out]))
     go_roundw
     case rel =>
      refine ⟨i + 1, by omega, by go_num, HT8.out, by rw [HBG.out]; exact HS8.out, fun j hj => ?_⟩
      by_cases e : j = i
      ·subst e; rw [HXE.out]; exact HLE.out
      ·exact HLED.out j (by omega)
     case measure => simp [intOf]; omega
   ·obtain rfl : i = zs.length := by omega
    obtain ⟨W6, hW6⟩ : ∃ x, wr = x := ⟨_, rfl⟩
    rw [hW6] at HT HM ⊢
    have HLO6 := Lib.hid (HLO5.out.turned HT.out (fun q a1 a2 e => by omega))
    have HCX6 := Lib.hid (HCX.out.turned HT.out (by omega))
    have HCA6 := Lib.hid (HCA.out.turned HT.out (by omega))
    have HR6 := Lib.hid (HR5.out.turned HT.out (by omega))
    have HW6 : Hid (Below w.heap.size w W6) := Lib.hid (HW5.out.trans (HT.out.below HW5.out.size (fun q hq e => by omega)))
    have HZ6 : Hid (s3 + 1 + 1 + 1 ≤ W6.heap.size) := Lib.hid (by have := HT.out.size; have := HZ5.out; omega)
    clear hW6 ht hm hled hnu c2 c3
    go_upto_region 15 with fail
    refine wp_name (fun W8 hW8 => ?_)
    have HB8 : Hid (Below W6.heap.size W6 W8) := Lib.hid (by rw [hW8]; exact box_below' W6 _)
    have HCF : Hid (Cell1 W8 W6.heap.size (.func (.func 34) #[] #[.pointer (some ⟨s3, 0, none⟩), .pointer (some ⟨s3 + 1 + 1, 0, none⟩), .pointer (some ⟨w.heap.size + 1, 0, none⟩), .pointer (some ⟨W6.heap.size, 0, none⟩)])) := Lib.hid (by rw [hW8]; exact Cell1.new W6 _ _)
    have HZ8 : Hid (W8.heap.size = W6.heap.size + 1) := Lib.hid (by rw [hW8]; simp)
    clear hW8
    have hnu := HNUM.out
    have hz6 := HZ6.out
    have hz8 := HZ8.out
    have hE : EnvM.Ok ⟨B, W8.heap.size, W2.heap.size, s3, s3, q0, s3 + 1 + 1, s3 + 1, w.heap.size + 1, W6.heap.size, .slice a f.lots.length cap, f, zs⟩ :=
     ⟨by show B ≤ w.heap.size + 1; omega, hnu.1, hnu.2, ⟨Nat.le_refl _, by show s3 < W8.heap.size; omega⟩, ⟨by show s3 ≤ s3 + 1 + 1; omega, by show s3 + 1 + 1 < W8.heap.size; omega⟩, ⟨by show s3 ≤ s3 + 1; omega, by show s3 + 1 < W8.heap.size; omega⟩, ⟨by show s3 ≤ W6.heap.size; omega, by show W6.heap.size < W8.heap.size; omega⟩, ⟨by show s3 + 1 ≠ s3; omega, by show s3 + 1 ≠ s3 + 1 + 1; omega, by show s3 + 1 ≠ W6.heap.size; omega⟩⟩
    have HWB8 : Hid (Below w.heap.size w W8) := Lib.hid (HW6.out.trans (HB8.out.mono HW6.out.size))
    have hS : FindS ⟨B, W8.heap.size, W2.heap.size, s3, s3, q0, s3 + 1 + 1, s3 + 1, w.heap.size + 1, W6.heap.size, .slice a f.lots.length cap, f, zs⟩ (fun _ => False) (.slice none 0 0) 0 [] [] W8 :=
     ⟨HLO6.out.ext HB8.out, (HF.out.below HWB8.out hB).2.2, HCX6.out.ext HB8.out, HCA6.out.ext HB8.out, HCF.out, HR6.out.ext HB8.out, ⟨none, 0, 0, rfl, ⟨Nat.le_refl _, Nat.le_refl _⟩, WayV.nil⟩, ⟨_, HM.out.ext HB8.out, fun t ht => by rw [pos_zero]; exact beg_at (by have hal' := HAL.out; have ht' : t < f.senders.toNat := ht; omega)⟩, Nat.le_refl _, fun q hq => hq.elim⟩
    have hfa := find_all _ hE hc HAL.out HZ64.out f.lots.length (Nat.le_refl _)
    have h00 : f.lots.length - f.lots.length = 0 := Nat.sub_self _
    have hfa2 := hfa W8 (fun _ => False) (.slice none 0 0) [] []
    simp only [h00] at hfa2
    have HFI := Lib.hid (hfa2 hS ⟨none, 0, rfl⟩ rfl (fun j hj => by omega) (make_good HCK.out HLED.out))
    have HMO : Hid (makeO f zs = findM f zs (f.lots.length - 0) []) := Lib.hid (by unfold makeO; rw [if_pos HCK.out, Nat.sub_zero])
    have n1 := HCF.out.cell
    have HEE := Lib.hid hE
    clear hfa hfa2 hS hnu hz6 hz8 hE h00
    obtain ⟨RR, hRR⟩ : ∃ r, findM f zs (f.lots.length - 0) [] = r := ⟨_, rfl⟩
    have hFI2 := HFI.out
    change Calls _ _ _ _ (FPost _ _ _ _ _ _ _ _ (findM f zs (f.lots.length - 0) [])) at hFI2
    rw [hRR] at hFI2
    rw [hRR] at HMO
    have HFJ := Lib.hid hFI2
    have HPW : Hid (∀ r e W9, FPost ⟨B, W8.heap.size, W2.heap.size, s3, s3, q0, s3 + 1 + 1, s3 + 1, w.heap.size + 1, W6.heap.size, .slice a f.lots.length cap, f, zs⟩ (fun _ => False) (fun q => q < B) (.slice none 0 0) 0 [] [] W8 r e W9 → ∃ a n cp, Cell1 W9 (w.heap.size + 1) (.slice a n cp) ∧ Below w.heap.size w W9 ∧ ∀ u, r = some u → WayAt (fun q => q < B ∨ W8.heap.size ≤ q) W8.heap.size W9 (.slice a n cp) u) := Lib.hid (by
     rintro r e W9 ⟨_, v', q1, _, q3, _, q5⟩
     obtain ⟨a, n, cp, rfl, _, _⟩ := q1.way
     refine ⟨a, n, cp, q1.cw, HWB8.out.trans (q3.below HWB8.out.size (fun q hq h => ?_)), fun u hu => ?_⟩
     ·have hnu := HNUM.out
      rcases h with h | h | h
      ·have h : q = s3 + 1 := h; omega
      ·have h : q = w.heap.size + 1 := h; omega
      ·cases h
     ·obtain ⟨vals, hv⟩ := q5 u hu
      exact ⟨vals, hv.mono (fun q hq _ => by rcases hq with hq | hq | hq; exact hq.elim; exact .inl hq; exact .inr hq)⟩)
    have HBR : Hid (B < w.heap.size + 1 ∧ w.heap.size + 1 < W8.heap.size) := Lib.hid (by have := HNUM.out; have := HZ6.out; have := HZ8.out; omega)
    clear hFI2 hRR HFI
    cases RR with
    | none =>
     have hb1 : MB = false := by rw [← HMB.out]; unfold makeB; rw [HMO.out]; rfl
     have hb2 : MR = [] := by rw [← HMR.out]; unfold makeR; rw [HMO.out]; rfl
     go_wp2_with (go_at_call 34; refine HFJ.out.mono ?_; intro e W9 hpost; obtain ⟨a9, n9, cp9, hcw, hbw, hres⟩ := HPW.out _ _ _ hpost; have he : e = .returned (.bool false) := hpost.1; have HCW := Lib.hid hcw; have HBW := Lib.hid hbw; have r9 := hcw.cell; have f9 := hcw.free; have hcl := (hcw.set (.slice none 0 0)).cell; clear hpost hcw hbw hres; subst he)
     refine bodyPost_ret (v := .tuple #[.slice none 0 0, .bool false, .int .i64 0]) (by simp [results, Try.results11, go_sem, hcl]) rfl ?_
     rw [hb1, hb2]
     exact ⟨.slice none 0 0, by rw [HEZ.out], ⟨0, 0, 0, ⟨none, rfl, Nat.le_refl _, by omega, .inr rfl⟩, by simp, fun j hj => by simp at hj⟩, HBW.out.setCell (p := ⟨w.heap.size + 1, 0, none⟩) (by show w.heap.size ≤ w.heap.size + 1; omega) _⟩
    | some u =>
     have hb1 : MB = true := by rw [← HMB.out]; unfold makeB; rw [HMO.out]; rfl
     have hb2 : MR = u := by rw [← HMR.out]; unfold makeR; rw [HMO.out]; rfl
     go_wp2_with (go_at_call 34; refine HFJ.out.mono ?_; intro e W9 hpost; obtain ⟨a9, n9, cp9, hcw, hbw, hres⟩ := HPW.out _ _ _ hpost; have he : e = .returned (.bool true) := hpost.1; have HCW := Lib.hid hcw; have HBW := Lib.hid hbw; have HRES := Lib.hid (hres u rfl); have r9 := hcw.cell; have f9 := hcw.free; have hcl := (hcw.set (.slice a9 n9 cp9)).cell; clear hpost hcw hbw hres; subst he)
     refine bodyPost_ret (v := .tuple #[.slice a9 n9 cp9, .bool true, .int .i64 0]) (by simp [results, Try.results11, go_sem, hcl]) rfl ?_
     rw [hb1, hb2]
     have hbr := HBR.out
     have hts : Turned (fun q => q = w.heap.size + 1) W9 (W9.setCell ⟨w.heap.size + 1, 0, none⟩ (.slice a9 n9 cp9)) := Turned.of_grown (grown_setCell W9 ⟨w.heap.size + 1, 0, none⟩ _) (fun q e => by simpa using e.symm)
     obtain ⟨vals, hv⟩ := HRES.out
     have hw10 : WayAt (fun q => q < B ∨ W8.heap.size ≤ q) W8.heap.size (W9.setCell ⟨w.heap.size + 1, 0, none⟩ (.slice a9 n9 cp9)) (.slice a9 n9 cp9) u := ⟨vals, hv.turned hts (fun q hq _ e => by rcases hq with hq | hq <;> omega) (fun q e e2 => by have := (hv.lt q e).1; omega)⟩
     exact ⟨.slice a9 n9 cp9, by rw [HEZ.out], hw10.isMat, HBW.out.setCell (p := ⟨w.heap.size + 1, 0, none⟩) (by show w.heap.size ≤ w.heap.size + 1; omega) _⟩
 ·have he1 : (ER != 0) = true := by simpa using he
  have r2 := HR2.out.cell
  have f2 := HR2.out.free
  have hbad : MB = false ∧ MR = [] := by
   have h := err_make (f := f) (a := zs) (by rw [HER.out]; exact he)
   rw [HMB.out, HMR.out] at h
   exact ⟨h.1, h.2.1⟩
  obtain ⟨hb1, hb2⟩ := hbad
  have HST := Lib.hid (HR2.out.set (.slice none 0 0)).cell
  go_wp2
  have hcl := HST.out
  refine bodyPost_ret (v := .tuple #[.slice none 0 0, .bool false, .int .i64 ER]) (by simp [results, Try.results11, go_sem, hcl]) rfl ?_
  rw [hb1, hb2]
  exact ⟨_, rfl, ⟨0, 0, 0, ⟨none, rfl, Nat.le_refl _, by omega, .inr rfl⟩, by simp, fun j hj => by simp at hj⟩, HW2.out.setCell (p := ⟨w.heap.size + 1, 0, none⟩) (by show w.heap.size ≤ w.heap.size + 1; omega) _⟩
end Go.Proofs.Yteiaeaciaglmgaa
set_option linter.unusedVariables false
set_option linter.unusedSimpArgs false
namespace Go.Proofs.Yteiaeaciaglmgaa
open Go.RowKit
theorem right_map {f : Flow} {zs : List Int} {W : List (List Int)} (he : errX f zs = 0) (hl : W.length = f.lots.length) (hk : ∀ j, j < f.lots.length → (lotAt f.lots j).known = true → rowAt W j = (lotAt f.lots j).perm) :
  rightW f zs W = (decide (mapE (alongF f W) = 0) && sameB (mapR (alongF f W)) zs) := by
 obtain ⟨hc, _, _⟩ := errX_ok he
 have hlo := (checkE_ok hc).2.2.2.2
 unfold rightW
 rw [decide_eq_true he, Bool.true_and]
 by_cases hm : mapE (alongF f W) = 0
 ·have hca : checkE (alongF f W) = 0 := by
   unfold mapE at hm
   by_cases e : checkE (alongF f W) = 0
   ·exact e
   ·rw [if_pos e] at hm; exact absurd hm e
  have hla := (checkE_ok hca).2.2.2.2
  rw [along_len] at hla
  have hB : isB f W = true := by
   rw [isB_iff hlo]
   refine ⟨hl, fun j hj => ?_⟩
   have hp := (lotB_parts (lotsB_lot hla hj)).2.2.2.1 (along_known j hj)
   rw [along_at hj] at hp
   unfold permsOf
   cases hkn : (lotAt f.lots j).known with
   | true => rw [if_pos rfl, List.mem_singleton]; exact hk j hj hkn
   | false => rw [if_neg (by decide), mem_permsL]; exact hp
  rw [hB, decide_eq_true hm]
  unfold leadsB mapR
  rw [if_pos hm]
 ·have hB : isB f W = false := by
   cases e : isB f W with
   | false => rfl
   | true =>
    exfalso
    have hw := ((isB_iff hlo).1 e).2
    apply hm
    unfold mapE
    rw [if_neg (by rw [along_check hc hw]; simp), if_pos]
    exact known_knownB (fun j hj => along_known j (by rw [← along_len f W]; exact hj))
  rw [hB, decide_eq_false hm]
  rfl
theorem right_len {f : Flow} {zs : List Int} {W : List (List Int)} (hl : W.length ≠ f.lots.length) : rightW f zs W = false := by
 unfold rightW isB
 rw [decide_eq_false hl, Bool.false_and, Bool.false_and, Bool.and_false]
theorem right_err {f : Flow} {zs : List Int} {W : List (List Int)} (he : errX f zs ≠ 0) : rightW f zs W = false := by
 unfold rightW
 rw [decide_eq_false he, Bool.false_and]
theorem right_row {f : Flow} {zs : List Int} {W : List (List Int)} {k : Nat} (hc : checkE f = 0) (hk : k < f.lots.length) (hkn : (lotAt f.lots k).known = true) (h : sameB (lotAt f.lots k).perm (rowAt W k) = false) : rightW f zs W = false := by
 unfold rightW
 have hB : isB f W = false := by
  cases e : isB f W with
  | false => rfl
  | true =>
   exfalso
   have hw := ((isB_iff (checkE_ok hc).2.2.2.2).1 e).2 k hk
   unfold permsOf at hw
   rw [if_pos hkn, List.mem_singleton] at hw
   rw [hw] at h
   unfold sameB at h
   simp at h
 rw [hB, Bool.false_and, Bool.and_false]
set_option maxHeartbeats 8000000 in
set_option maxRecDepth 100000 in
/-- explain.Check -/
theorem echk_any (B : Nat) (w : World) (vs vl va vw : Value) (f : Flow) (zs : List Int) (W : List (List Int)) (hf : IsFlow B w vs vl f) (hz : IsInts B w va zs) (hw : IsMat B w vw W) (hB : B ≤ w.heap.size) :
  Calls Try.prog 13 #[.agg #[vs, vl], va, vw] w fun e w' => e = .returned (.tuple #[.bool (rightW f zs W), .int .i64 (errX f zs)]) ∧ Below w.heap.size w w' := by
 have HF := Lib.hid hf
 have HZ := Lib.hid hz
 obtain ⟨rfl, ⟨hs1, hs2⟩, hl⟩ := hf
 obtain ⟨b, off, cap, ⟨a, rfl, hcap, hmax, ha⟩, hlen, hc⟩ := hl
 obtain ⟨bw, ow, cw, ⟨aw, rfl, hcapw, hmaxw, haw⟩, hlenw, hcw⟩ := hw
 obtain ⟨az, cz, rfl⟩ := hz.form
 have HC := Lib.hid hc
 have HA := Lib.hid ha
 have HCW := Lib.hid hcw
 have HAW := Lib.hid haw
 obtain ⟨ER, hER⟩ : ∃ x, errX f zs = x := ⟨_, rfl⟩
 have HER := Lib.hid hER
 obtain ⟨RB, hRB⟩ : ∃ x, rightW f zs W = x := ⟨_, rfl⟩
 have HRB := Lib.hid hRB
 rw [hER, hRB]
 clear hc ha hcw haw hz hER hRB
 go_enter Try.func13, Try.ntmps13
 go_upto_region 1 with fail
 refine wp_name (fun W1 hW1 => ?_)
 have HX1 : Hid (Box W1 w.heap.size #[.int .i64 f.senders, .slice a f.lots.length cap]) := Lib.hid (by rw [hW1]; exact Box.new w #[.int .i64 f.senders, .slice a f.lots.length cap] 24)
 have HW1 : Hid (Below w.heap.size w W1) := Lib.hid (by rw [hW1]; exact box_below' w _)
 clear hW1
 have x1 := HX1.out.2
 have HCH := Lib.hid (echeck_any B W1 _ _ _ f zs (HF.out.below HW1.out hB) (HZ.out.below HW1.out hB) (Nat.le_trans hB HW1.out.size))
 rw [HER.out] at HCH
 go_wp2_with fail
 refine HCH.out.mono ?_
 rintro e W2 ⟨rfl, hb2⟩
 have HX2 := Lib.hid (HX1.out.ext hb2)
 have HW2 : Hid (Below w.heap.size w W2) := Lib.hid (HW1.out.trans (hb2.mono HW1.out.size))
 have x2 := HX2.out.2
 clear x1 hb2
 by_cases he : ER = 0
 ·have he1 : (ER != 0) = false := by simpa using he
  have hck0 : errX f zs = 0 := by rw [HER.out]; exact he
  have HE0 := Lib.hid he
  obtain ⟨hck, _, _⟩ := errX_ok hck0
  have HCK := Lib.hid hck0
  have HCC := Lib.hid hck
  have hl2 := (checkE_ok hck).2.2.1
  clear he hck0 hck
  by_cases hlw : W.length = f.lots.length
  ·have hd : ((W.length : Int) != (f.lots.length : Int)) = false := by simp [hlw]
   have hd2 : (W.length != f.lots.length) = false := by simp [hlw]
   have HLW := Lib.hid hlw
   clear hlw
   go_upto_region 7 with fail
   refine wp_name (fun W3 hW3 => ?_)
   have HB3 : Hid (Below W2.heap.size W2 W3) := Lib.hid (by rw [hW3]; exact box_below' W2 _)
   have HC3 : Hid (CellsN W3 W2.heap.size #[.int .i64 f.senders, .slice none 0 0]) := Lib.hid (by rw [hW3]; exact CellsN.new W2 _ _)
   have HX3 := Lib.hid (HX2.out.ext HB3.out)
   have HW3 : Hid (Below w.heap.size w W3) := Lib.hid (HW2.out.trans (HB3.out.mono HW2.out.size))
   have HZ2 := Lib.hid HX2.out.1
   obtain ⟨c2, hc2⟩ : ∃ x, W2.heap.size = x := ⟨_, rfl⟩
   rw [hc2] at HC3 HZ2 ⊢
   have x3 := HX3.out.2
   have n0 : w.heap.size ≠ c2 := by have := HZ2.out; omega
   clear hW3 hc2 HB3 x2
   go_wp2_with fail
   clear x3
   go_loopw [31] (fun i' wr => ∃ k v, k ≤ f.lots.length ∧ i' = .int .i64 (k : Nat) ∧ OwnLots w.heap.size wr v (alongL f W k) ∧ v.ownBlock ≠ some c2 ∧ v.ownBlock ≠ some w.heap.size ∧ Box wr w.heap.size #[.int .i64 f.senders, .slice a f.lots.length cap] ∧ CellsN wr c2 #[.int .i64 f.senders, v] ∧ Below w.heap.size w wr ∧ ∀ j, j < k → (lotAt f.lots j).known = true → rowAt W j = (lotAt f.lots j).perm) (fun i' _ => f.lots.length - (intOf i').toNat)
   case atStart => exact ⟨0, .slice none 0 0, by omega, rfl, OwnLots.nil _ _, by simp [Value.ownBlock], by simp [Value.ownBlock], HX3.out, HC3.out, HW3.out, fun j hj => by omega⟩
   case round =>
    obtain ⟨k, v, hk, rfl, hv, n2, n3, x0, y2, hbr, hkr⟩ := hrel
    have HV := Lib.hid hv
    have HY0 := Lib.hid x0
    have HY2 := Lib.hid y2
    have HBR := Lib.hid hbr
    have HKR := Lib.hid hkr
    clear hbr hkr y2
    by_cases hlt : k < f.lots.length
    ·obtain rfl : a = some ⟨b, off, none⟩ := by rcases HA.out with h | h; exact h; omega
     have hkw : k < W.length := by rw [HLW.out]; exact hlt
     obtain rfl : aw = some ⟨bw, ow, none⟩ := by rcases HAW.out with h | h; exact h; omega
     obtain ⟨vi, vk, vp, q1, q2, q3, hli, rfl, hlp⟩ := HC.out k hlt
     obtain ⟨ai, ci, rfl⟩ := hli.form
     obtain ⟨ap, cp, rfl⟩ := hlp.form
     obtain ⟨vr, hr1, hr2⟩ := HCW.out k hkw
     obtain ⟨ar, cr, rfl⟩ := hr2.form
     obtain ⟨av, nv, cv, rfl⟩ : ∃ a n c, v = .slice a n c := by obtain ⟨a, c, e⟩ := hv.form; exact ⟨_, _, _, e⟩
     have HWC : Hid (∀ W', Below w.heap.size w W' → W'.cell? ⟨bw, ow + k, none⟩ = some (.slice ar (rowAt W k).length cr)) := Lib.hid (fun W' hW => (hr1.below hW hB).2)
     have HLX : Hid (∀ W', Below w.heap.size w W' → IsLot w.heap.size W' (.slice ai (lotAt f.lots k).ins.length ci) (.bool true) (.slice ar (rowAt W k).length cr) ⟨(lotAt f.lots k).ins, true, rowAt W k⟩) := Lib.hid fun W' hW => ⟨(hli.below hW hB).mono hB, rfl, (hr2.below hW hB).mono hB⟩
     have HEQ := Lib.hid (fun (W' : World) (hW : Below w.heap.size w W') => equal_any B B W' _ _ _ _ (hlp.below hW hB) (hr2.below hW hB))
     have HLL : Hid ((alongL f W k).length = k) := Lib.hid (alongL_len f W k)
     have HLS : Hid (alongL f W (k + 1) = alongL f W k ++ [⟨(lotAt f.lots k).ins, true, rowAt W k⟩]) := Lib.hid rfl
     have HBAD := Lib.hid (fun hkn h => right_row (zs := zs) (W := W) HCC.out hlt hkn h)
     have c1 := (q1.below HBR.out hB).2
     have c2' := (q2.below HBR.out hB).2
     have c3 := (q3.below HBR.out hB).2
     clear q1 q2 q3 hli hlp hr1 hr2 hv x0
     go_upto_region 10 with fail
     refine wp_name (fun WA hWA => ?_)
     have HBA : Hid (Below wr.heap.size wr WA) := Lib.hid (by rw [hWA]; exact box_below' wr _)
     have HLA : Hid (Box WA wr.heap.size #[.slice ai (lotAt f.lots k).ins.length ci, .bool (lotAt f.lots k).known, .slice ap (lotAt f.lots k).perm.length cp]) := Lib.hid (by rw [hWA]; exact Box.new wr _ _)
     have HBW : Hid (Below w.heap.size w WA) := Lib.hid (HBR.out.trans (HBA.out.mono HBR.out.size))
     have HSZ := Lib.hid HBR.out.size
     have HZY := Lib.hid HY2.out.lt
     obtain ⟨zL, hzL⟩ : ∃ x, wr.heap.size = x := ⟨_, rfl⟩
     rw [hzL] at HLA HSZ HZY ⊢
     have HOA : Hid (∀ q, (Value.slice av nv cv).ownBlock = some q → q < zL) := Lib.hid (fun q e => by rw [← hzL]; exact (HV.out.ltX q e).2)
     have n4 : zL ≠ c2 := by have := HZY.out; omega
     have n5 : (Value.slice av nv cv).ownBlock ≠ some zL := fun e => by have := HOA.out _ e; omega
     have HVA : Hid (OwnLots w.heap.size WA (.slice av nv cv) (alongL f W k)) := Lib.hid (HV.out.below HBA.out HBR.out.size)
     have HYA := Lib.hid (HY2.out.ext HBA.out)
     have HX0A := Lib.hid (HY0.out.ext HBA.out)
     clear hWA hzL HV HY2 HY0 HBA HBR c1 c2' c3
     have l1 := HLA.out.2
     have w1 := HWC.out _ HBW.out
     cases hkn : (lotAt f.lots k).known
     ·rw [hkn] at l1
      have HKS : Hid (∀ j, j < k + 1 → (lotAt f.lots j).known = true → rowAt W j = (lotAt f.lots j).perm) := Lib.hid (fun j hj h => by
       by_cases e : j = k
       ·subst e; rw [hkn] at h; cases h
       ·exact HKR.out j (by omega) h)
      go_wp2
      go_quiet (fail)
      clear l1 w1
      go_upto_region 12 with fail
      refine wp_name (fun WB hWB => ?_)
      have HBWB : Hid (Below WA.heap.size WA WB) := Lib.hid (by rw [hWB]; exact below_drewN (Below.refl _ _) _)
      have HBB : Hid (Below w.heap.size w WB) := Lib.hid (HBW.out.trans (HBWB.out.mono HBW.out.size))
      have HVB : Hid (OwnLots w.heap.size WB (.slice av nv cv) (alongL f W k)) := Lib.hid (HVA.out.below HBWB.out HBW.out.size)
      have HYB := Lib.hid (HYA.out.ext HBWB.out)
      have HX0B := Lib.hid (HX0A.out.ext HBWB.out)
      have HLBB := Lib.hid (HLA.out.ext HBWB.out)
      have n6 : w.heap.size < WB.heap.size := HX0B.out.1
      clear hWB HBWB
      obtain ⟨V, hV⟩ : ∃ V : List (Option Value), V = [some (.pointer (some ⟨c2, 1, none⟩)), some (.slice av nv cv), some (.pointer (some ⟨zL, 0, none⟩)), some (.slice ai (lotAt f.lots k).ins.length ci), some (.slice (some ⟨bw, ow, none⟩) W.length cw), some (.int .i64 (k : Nat)), some (.pointer (some ⟨bw, ow + k, none⟩)), some (.slice ar (rowAt W k).length cr), some (.agg #[.slice ai (lotAt f.lots k).ins.length ci, .bool true, .slice ar (rowAt W k).length cr]), none, none, some (.pointer (some ⟨c2, 1, none⟩)), none] := ⟨_, rfl⟩
      have HVV := Lib.hid hV
      clear hV
      refine wp_region_V [some 48, some 49, some 50, some 51, some 52, some 53, some 54, some 55, some 56, some 57, some 58, some 59, none] (fun L w' xs => ValsAt V L xs ∧ (ApL w.heap.size c2 w WB (.int .i64 f.senders) (.slice av nv cv) (alongL f W k) ⟨(lotAt f.lots k).ins, true, rowAt W k⟩ #[.slice ai (lotAt f.lots k).ins.length ci, .bool true, .slice ar (rowAt W k).length cr] (L 9) (L 10) (L 12) (xs 9) (xs 10) w' ∧ (L 12 = true → L 1 = true ∧ L 10 = true))) (by kernel_rfl) (by kernel_rfl) (by rfl) (by rfl) (by rfl) ?_ ?_ ?_
      focus
       exact fun xs => ⟨ValsAt.none _ _, (by exact ApL.start HBB.out (by have := HZ2.out; omega) HBB.out.size HVB.out n2 HYB.out 1), (fun e => by cases e)⟩
      focus
       refine ⟨?_, ?_, ?_, ?_, ?_, ?_, ?_, ?_, ?_, ?_, ?_, ?_, ?_, trivial⟩
       all_goals
        intro L a' w' xs hi hd hf hJ K hK
        obtain ⟨hv, hA, h16⟩ := hJ
        have HF := Lib.hid hf
        have HVA := Lib.hid hv
        have HLI := Lib.hid hi
        clear hf hv hi
       focus
        clear hd
        obtain ⟨ρ, hρ⟩ : ∃ ρ, a'.eval = ρ := ⟨_, rfl⟩
        have hcst : ∀ v, ρ (.const v) = v := fun v => (congrFun hρ (.const v)).symm
        have l9 : ρ (.tmp 9) = .pointer (some ⟨c2, 0, none⟩) := (congrFun hρ (.tmp 9)).symm.trans (HF.out.lo 9 rfl)
        rw [if_pos (by simp [Region.wanted])]
        unfold Oper.wp
        rw [hρ]
        clear hρ
        go_simp
        exact hK.out _ _ ⟨HVA.out.set (i := 0) (by rw [HVV.out]; rfl), (by simp only [updV_ne (xs := xs) (show (9 : Nat) ≠ 0 by decide), updV_ne (xs := xs) (show (10 : Nat) ≠ 0 by decide)]; exact hA), h16⟩
       focus
        obtain ⟨d0, _⟩ := hd
        obtain ⟨ρ, hρ⟩ : ∃ ρ, a'.eval = ρ := ⟨_, rfl⟩
        have hcst : ∀ v, ρ (.const v) = v := fun v => (congrFun hρ (.const v)).symm
        have v0 : ρ (.tmp 48) = .pointer (some ⟨c2, 1, none⟩) := (congrFun hρ (.tmp 48)).symm.trans ((HF.out.ev 0 rfl d0).trans (HVA.out 0 _ (by rw [HVV.out]; rfl) d0))
        have hN : L 12 = false := by
         cases e : L 12 with
         | false => rfl
         | true => have := (h16 e).1; rw [HLI.out] at this; cases this
        have m1 := (hA.hc hN).cell 1
        simp at m1
        rw [if_pos (by simp [Region.wanted])]
        unfold Oper.wp
        rw [hρ]
        clear hρ
        go_simp
        exact hK.out _ _ ⟨HVA.out.set (i := 1) (by rw [HVV.out]; rfl), (by simp only [updV_ne (xs := xs) (show (9 : Nat) ≠ 1 by decide), updV_ne (xs := xs) (show (10 : Nat) ≠ 1 by decide)]; exact hA), (fun e => ⟨rfl, (h16 e).2⟩)⟩
       focus
        clear hd
        obtain ⟨ρ, hρ⟩ : ∃ ρ, a'.eval = ρ := ⟨_, rfl⟩
        have hcst : ∀ v, ρ (.const v) = v := fun v => (congrFun hρ (.const v)).symm
        have l11 : ρ (.tmp 11) = .pointer (some ⟨zL, 0, none⟩) := (congrFun hρ (.tmp 11)).symm.trans (HF.out.lo 11 rfl)
        rw [if_pos (by simp [Region.wanted])]
        unfold Oper.wp
        rw [hρ]
        clear hρ
        go_simp
        exact hK.out _ _ ⟨HVA.out.set (i := 2) (by rw [HVV.out]; rfl), (by simp only [updV_ne (xs := xs) (show (9 : Nat) ≠ 2 by decide), updV_ne (xs := xs) (show (10 : Nat) ≠ 2 by decide)]; exact hA), h16⟩
       focus
        obtain ⟨d2, _⟩ := hd
        obtain ⟨ρ, hρ⟩ : ∃ ρ, a'.eval = ρ := ⟨_, rfl⟩
        have hcst : ∀ v, ρ (.const v) = v := fun v => (congrFun hρ (.const v)).symm
        have v2 : ρ (.tmp 50) = .pointer (some ⟨zL, 0, none⟩) := (congrFun hρ (.tmp 50)).symm.trans ((HF.out.ev 2 rfl d2).trans (HVA.out 2 _ (by rw [HVV.out]; rfl) d2))
        have m1 := (hA.cell (k := zL) (i := 0) HLBB.out.1 n4 n5).trans (HLBB.out.2 0)
        simp at m1
        rw [if_pos (by simp [Region.wanted])]
        unfold Oper.wp
        rw [hρ]
        clear hρ
        go_simp
        exact hK.out _ _ ⟨HVA.out.set (i := 3) (by rw [HVV.out]; rfl), (by simp only [updV_ne (xs := xs) (show (9 : Nat) ≠ 3 by decide), updV_ne (xs := xs) (show (10 : Nat) ≠ 3 by decide)]; exact hA), h16⟩
       focus
        clear hd
        obtain ⟨ρ, hρ⟩ : ∃ ρ, a'.eval = ρ := ⟨_, rfl⟩
        have hcst : ∀ v, ρ (.const v) = v := fun v => (congrFun hρ (.const v)).symm
        have l2 : ρ (.tmp 2) = .slice (some ⟨bw, ow, none⟩) W.length cw := (congrFun hρ (.tmp 2)).symm.trans (HF.out.lo 2 rfl)
        rw [if_pos (by simp [Region.wanted])]
        unfold Oper.wp
        rw [hρ]
        clear hρ
        go_simp
        exact hK.out _ _ ⟨HVA.out.set (i := 4) (by rw [HVV.out]; rfl), (by simp only [updV_ne (xs := xs) (show (9 : Nat) ≠ 4 by decide), updV_ne (xs := xs) (show (10 : Nat) ≠ 4 by decide)]; exact hA), h16⟩
       focus
        clear hd
        obtain ⟨ρ, hρ⟩ : ∃ ρ, a'.eval = ρ := ⟨_, rfl⟩
        have hcst : ∀ v, ρ (.const v) = v := fun v => (congrFun hρ (.const v)).symm
        have l10 : ρ (.tmp 10) = .int .i64 (k : Nat) := (congrFun hρ (.tmp 10)).symm.trans (HF.out.lo 10 rfl)
        rw [if_pos (by simp [Region.wanted])]
        unfold Oper.wp
        rw [hρ]
        clear hρ
        go_simp
        exact hK.out _ _ ⟨HVA.out.set (i := 5) (by rw [HVV.out]; rfl), (by simp only [updV_ne (xs := xs) (show (9 : Nat) ≠ 5 by decide), updV_ne (xs := xs) (show (10 : Nat) ≠ 5 by decide)]; exact hA), h16⟩
       focus
        obtain ⟨d4, d5, _⟩ := hd
        obtain ⟨ρ, hρ⟩ : ∃ ρ, a'.eval = ρ := ⟨_, rfl⟩
        have hcst : ∀ v, ρ (.const v) = v := fun v => (congrFun hρ (.const v)).symm
        have v4 : ρ (.tmp 52) = .slice (some ⟨bw, ow, none⟩) W.length cw := (congrFun hρ (.tmp 52)).symm.trans ((HF.out.ev 4 rfl d4).trans (HVA.out 4 _ (by rw [HVV.out]; rfl) d4))
        have v5 : ρ (.tmp 53) = .int .i64 (k : Nat) := (congrFun hρ (.tmp 53)).symm.trans ((HF.out.ev 5 rfl d5).trans (HVA.out 5 _ (by rw [HVV.out]; rfl) d5))
        rw [if_pos (by simp [Region.wanted])]
        unfold Oper.wp
        rw [hρ]
        clear hρ
        go_simp
        exact hK.out _ _ ⟨HVA.out.set (i := 6) (by rw [HVV.out]; rfl), (by simp only [updV_ne (xs := xs) (show (9 : Nat) ≠ 6 by decide), updV_ne (xs := xs) (show (10 : Nat) ≠ 6 by decide)]; exact hA), h16⟩
       focus
        obtain ⟨d6, _⟩ := hd
        obtain ⟨ρ, hρ⟩ : ∃ ρ, a'.eval = ρ := ⟨_, rfl⟩
        have hcst : ∀ v, ρ (.const v) = v := fun v => (congrFun hρ (.const v)).symm
        have v6 : ρ (.tmp 54) = .pointer (some ⟨bw, ow + k, none⟩) := (congrFun hρ (.tmp 54)).symm.trans ((HF.out.ev 6 rfl d6).trans (HVA.out 6 _ (by rw [HVV.out]; rfl) d6))
        have m1 := HWC.out _ hA.hb
        rw [if_pos (by simp [Region.wanted])]
        unfold Oper.wp
        rw [hρ]
        clear hρ
        go_simp
        exact hK.out _ _ ⟨HVA.out.set (i := 7) (by rw [HVV.out]; rfl), (by simp only [updV_ne (xs := xs) (show (9 : Nat) ≠ 7 by decide), updV_ne (xs := xs) (show (10 : Nat) ≠ 7 by decide)]; exact hA), h16⟩
       focus
        obtain ⟨d3, d7, _⟩ := hd
        obtain ⟨ρ, hρ⟩ : ∃ ρ, a'.eval = ρ := ⟨_, rfl⟩
        have hcst : ∀ v, ρ (.const v) = v := fun v => (congrFun hρ (.const v)).symm
        have v3 : ρ (.tmp 51) = .slice ai (lotAt f.lots k).ins.length ci := (congrFun hρ (.tmp 51)).symm.trans ((HF.out.ev 3 rfl d3).trans (HVA.out 3 _ (by rw [HVV.out]; rfl) d3))
        have v7 : ρ (.tmp 55) = .slice ar (rowAt W k).length cr := (congrFun hρ (.tmp 55)).symm.trans ((HF.out.ev 7 rfl d7).trans (HVA.out 7 _ (by rw [HVV.out]; rfl) d7))
        rw [if_pos (by simp [Region.wanted])]
        unfold Oper.wp
        rw [hρ]
        clear hρ
        go_simp
        exact hK.out _ _ ⟨HVA.out.set (i := 8) (by rw [HVV.out]; rfl), (by simp only [updV_ne (xs := xs) (show (9 : Nat) ≠ 8 by decide), updV_ne (xs := xs) (show (10 : Nat) ≠ 8 by decide)]; exact hA), h16⟩
       focus
        obtain ⟨d8, _⟩ := hd
        obtain ⟨ρ, hρ⟩ : ∃ ρ, a'.eval = ρ := ⟨_, rfl⟩
        have hcst : ∀ v, ρ (.const v) = v := fun v => (congrFun hρ (.const v)).symm
        have v8 : ρ (.tmp 56) = .agg #[.slice ai (lotAt f.lots k).ins.length ci, .bool true, .slice ar (rowAt W k).length cr] := (congrFun hρ (.tmp 56)).symm.trans ((HF.out.ev 8 rfl d8).trans (HVA.out 8 _ (by rw [HVV.out]; rfl) d8))
        rw [if_pos (by simp [Region.wanted])]
        unfold Oper.wp
        rw [hρ]
        clear hρ
        go_simp
        exact hK.out _ _ ⟨HVA.out.free (i := 9) (by rw [HVV.out]; rfl) _, (by simp only [updV_ne (xs := xs) (show (10 : Nat) ≠ 9 by decide), updV_self]; exact hA.sb HLI.out _ rfl), h16⟩
       focus
        obtain ⟨d1, d9, _⟩ := hd
        have v1 : a'.eval (.tmp 49) = .slice av nv cv := (HF.out.ev 1 rfl d1).trans (HVA.out 1 _ (by rw [HVV.out]; rfl) d1)
        have v9 : a'.eval (.tmp 57) = xs 9 := HF.out.ev 9 rfl d9
        rw [if_pos (by simp [Region.wanted])]
        obtain ⟨q, e13, q1, q2⟩ := hA.hq d9 HLI.out
        rw [e13] at v9
        have hsrc : SrcLots w.heap.size w' (.slice (some ⟨q, 0, none⟩) 1 1) [⟨(lotAt f.lots k).ins, true, rowAt W k⟩] := srcLots_one (q2.cell 0) (q2.cell 1) (q2.cell 2) (HLX.out _ hA.hb)
        obtain ⟨v5, w5, y1, y2, y3, y4⟩ := run_append_lots (ty := 22) (hA.hv HLI.out) hsrc (by have := HLL.out; simp; omega) (Nat.le_trans hA.hC.2.2 hA.sz)
        refine wp_of_append w' rfl v1 v9 y1 ?_
        exact hK.out _ _ ⟨HVA.out.free (i := 10) (by rw [HVV.out]; rfl) _, (by simp only [updV_ne (xs := xs) (show (9 : Nat) ≠ 10 by decide), updV_self]; exact hA.sa HLI.out d9 y2 y3 y4), (fun e => by have := (h16 e).2; rw [HLI.out] at this; cases this)⟩
       focus
        obtain ⟨d0, d1, d2, d3, d4, d5, d6, d7, d8, d9, d10, _⟩ := hd
        obtain ⟨ρ, hρ⟩ : ∃ ρ, a'.eval = ρ := ⟨_, rfl⟩
        have hcst : ∀ v, ρ (.const v) = v := fun v => (congrFun hρ (.const v)).symm
        have l9 : ρ (.tmp 9) = .pointer (some ⟨c2, 0, none⟩) := (congrFun hρ (.tmp 9)).symm.trans (HF.out.lo 9 rfl)
        rw [if_pos (by simp [Region.wanted])]
        unfold Oper.wp
        rw [hρ]
        clear hρ
        go_simp
        exact hK.out _ _ ⟨HVA.out.set (i := 11) (by rw [HVV.out]; rfl), (by simp only [updV_ne (xs := xs) (show (9 : Nat) ≠ 11 by decide), updV_ne (xs := xs) (show (10 : Nat) ≠ 11 by decide)]; exact hA), h16⟩
       focus
        obtain ⟨d11, d10, _, d0, d1, d2, d3, d4, d5, d6, d7, d8, d9, _, _⟩ := hd
        obtain ⟨ρ, hρ⟩ : ∃ ρ, a'.eval = ρ := ⟨_, rfl⟩
        have hcst : ∀ v, ρ (.const v) = v := fun v => (congrFun hρ (.const v)).symm
        have v11 : ρ (.tmp 59) = .pointer (some ⟨c2, 1, none⟩) := (congrFun hρ (.tmp 59)).symm.trans ((HF.out.ev 11 rfl d11).trans (HVA.out 11 _ (by rw [HVV.out]; rfl) d11))
        have v10 : ρ (.tmp 58) = xs 10 := (congrFun hρ (.tmp 58)).symm.trans (HF.out.ev 10 rfl d10)
        rw [if_pos (by simp [Region.wanted])]
        unfold Oper.wp
        rw [hρ]
        clear hρ
        obtain ⟨o1, o2, _⟩ := hA.ha d10
        obtain ⟨a8, n8, c8, e8⟩ : ∃ a n c, xs 10 = .slice a n c := by obtain ⟨a, c, e⟩ := o1.form; exact ⟨_, _, _, e⟩
        have HE8 := Lib.hid e8
        rw [e8] at v10
        have hSS := Lib.hid (hA.ss HLI.out d10)
        rw [e8] at hSS
        have fz := (hA.hc HLI.out).free 1
        have m1 := (hA.hc HLI.out).cell 1
        simp at m1
        clear o1 o2 e8
        go_simp
        exact hK.out undef _ ⟨HVA.out.free (i := 12) (by rw [HVV.out]; rfl) _, (by simp only [updV_ne (xs := xs) (show (9 : Nat) ≠ 12 by decide), updV_ne (xs := xs) (show (10 : Nat) ≠ 12 by decide)]; rw [HE8.out]; exact hSS.out), (fun _ => ⟨d1, d10⟩)⟩
      focus
       intro L w' xs hL hJ
       obtain ⟨hv, hA, h16⟩ := hJ
       have e0 : xs 0 = .pointer (some ⟨c2, 1, none⟩) := hv 0 _ (by rw [HVV.out]; rfl) (hL 0 (by decide))
       have e1 : xs 1 = .slice av nv cv := hv 1 _ (by rw [HVV.out]; rfl) (hL 1 (by decide))
       have e2 : xs 2 = .pointer (some ⟨zL, 0, none⟩) := hv 2 _ (by rw [HVV.out]; rfl) (hL 2 (by decide))
       have e3 : xs 3 = .slice ai (lotAt f.lots k).ins.length ci := hv 3 _ (by rw [HVV.out]; rfl) (hL 3 (by decide))
       have e4 : xs 4 = .slice (some ⟨bw, ow, none⟩) W.length cw := hv 4 _ (by rw [HVV.out]; rfl) (hL 4 (by decide))
       have e5 : xs 5 = .int .i64 (k : Nat) := hv 5 _ (by rw [HVV.out]; rfl) (hL 5 (by decide))
       have e6 : xs 6 = .pointer (some ⟨bw, ow + k, none⟩) := hv 6 _ (by rw [HVV.out]; rfl) (hL 6 (by decide))
       have e7 : xs 7 = .slice ar (rowAt W k).length cr := hv 7 _ (by rw [HVV.out]; rfl) (hL 7 (by decide))
       have e8 : xs 8 = .agg #[.slice ai (lotAt f.lots k).ins.length ci, .bool true, .slice ar (rowAt W k).length cr] := hv 8 _ (by rw [HVV.out]; rfl) (hL 8 (by decide))
       have e11 : xs 11 = .pointer (some ⟨c2, 1, none⟩) := hv 11 _ (by rw [HVV.out]; rfl) (hL 11 (by decide))
       simp only [putGo, Act.put, List.setIfInBounds_toArray, List.set_cons_zero, List.set_cons_succ, e0, e1, e2, e3, e4, e5, e6, e7, e8, e11]
       clear hv e0 e1 e2 e3 e4 e5 e6 e7 e8 e11
      have hX := (h16 (hL 12 (by decide))).2
      have hX12 := hL 12 (by decide)
      have HAP := Lib.hid hA
      clear h16 hA hL
      go_wp2
      go_roundw
      case rel =>
       obtain ⟨o1, o2, o3⟩ := HAP.out.ha hX
       refine ⟨k + 1, xs 10, by omega, by go_num, by rw [HLS.out]; exact o1, o2, fun e => ?_, ⟨Nat.lt_of_lt_of_le n6 HAP.out.sz, fun i => (HAP.out.cell n6 n0 n3).trans (HX0B.out.2 i)⟩, HAP.out.he hX12, HAP.out.hb, HKS.out⟩
       rcases o3 with o3 | ⟨q, o3, hq⟩
       ·rw [o3] at e; exact n3 e
       ·rw [o3] at e; simp at e; omega
      case measure => simp [intOf]; omega
     ·rw [hkn] at l1
      have HBD := Lib.hid (HBAD.out hkn)
      obtain ⟨SB, hSB⟩ : ∃ x, sameB (lotAt f.lots k).perm (rowAt W k) = x := ⟨_, rfl⟩
      have HSB := Lib.hid hSB
      have HEQ2 := Lib.hid (HEQ.out WA.drew ⟨HBW.out.os, HBW.out.tape, HBW.out.output, HBW.out.size, HBW.out.block⟩)
      rw [hSB] at HEQ2
      rw [hSB] at HBD
      clear hSB
      go_wp2
      go_still_tail 9, (by kernel_rfl)
      change wpList _ _ _ _ _ WA.drew
      cases SB
      ·have hrb : RB = false := by rw [← HRB.out]; exact HBD.out rfl
       go_wp2_with (go_at_call 38; refine HEQ2.out.mono ?_; rintro e w5 ⟨rfl, hd5⟩; have HD5 := Lib.hid hd5; clear hd5)
       go_ret2
       have hb5 := HD5.out.below w.heap.size
       exact ⟨by rw [hrb, HE0.out]; rfl, HBW.out.trans ⟨hb5.os, hb5.tape, hb5.output, hb5.size, hb5.block⟩⟩
      ·have HKS : Hid (∀ j, j < k + 1 → (lotAt f.lots j).known = true → rowAt W j = (lotAt f.lots j).perm) := Lib.hid (fun j hj h => by
        by_cases e : j = k
        ·subst e
         have h2 := HSB.out
         unfold sameB at h2
         exact (of_decide_eq_true h2).symm
        ·exact HKR.out j (by omega) h)
       clear l1 w1
       go_upto_region 12 with (go_at_call 38; refine HEQ2.out.mono ?_; rintro e w5 ⟨rfl, hd5⟩; have HD5 := Lib.hid hd5; clear hd5)
       refine wp_name (fun WB hWB => ?_)
       have HBWB : Hid (Below WA.heap.size WA WB) := Lib.hid (by
        rw [hWB]
        have hb5 := HD5.out.below WA.heap.size
        exact ⟨hb5.os, hb5.tape, hb5.output, hb5.size, hb5.block⟩)
       have HBB : Hid (Below w.heap.size w WB) := Lib.hid (HBW.out.trans (HBWB.out.mono HBW.out.size))
       have HVB : Hid (OwnLots w.heap.size WB (.slice av nv cv) (alongL f W k)) := Lib.hid (HVA.out.below HBWB.out HBW.out.size)
       have HYB := Lib.hid (HYA.out.ext HBWB.out)
       have HX0B := Lib.hid (HX0A.out.ext HBWB.out)
       have HLBB := Lib.hid (HLA.out.ext HBWB.out)
       have n6 : w.heap.size < WB.heap.size := HX0B.out.1
       clear hWB HBWB
       obtain ⟨V, hV⟩ : ∃ V : List (Option Value), V = [some (.pointer (some ⟨c2, 1, none⟩)), some (.slice av nv cv), some (.pointer (some ⟨zL, 0, none⟩)), some (.slice ai (lotAt f.lots k).ins.length ci), some (.slice (some ⟨bw, ow, none⟩) W.length cw), some (.int .i64 (k : Nat)), some (.pointer (some ⟨bw, ow + k, none⟩)), some (.slice ar (rowAt W k).length cr), some (.agg #[.slice ai (lotAt f.lots k).ins.length ci, .bool true, .slice ar (rowAt W k).length cr]), none, none, some (.pointer (some ⟨c2, 1, none⟩)), none] := ⟨_, rfl⟩
       have HVV := Lib.hid hV
       clear hV
       refine wp_region_V [some 48, some 49, some 50, some 51, some 52, some 53, some 54, some 55, some 56, some 57, some 58, some 59, none] (fun L w' xs => ValsAt V L xs ∧ (ApL w.heap.size c2 w WB (.int .i64 f.senders) (.slice av nv cv) (alongL f W k) ⟨(lotAt f.lots k).ins, true, rowAt W k⟩ #[.slice ai (lotAt f.lots k).ins.length ci, .bool true, .slice ar (rowAt W k).length cr] (L 9) (L 10) (L 12) (xs 9) (xs 10) w' ∧ (L 12 = true → L 1 = true ∧ L 10 = true))) (by kernel_rfl) (by kernel_rfl) (by rfl) (by rfl) (by rfl) ?_ ?_ ?_
       focus
        exact fun xs => ⟨ValsAt.none _ _, (by exact ApL.start HBB.out (by have := HZ2.out; omega) HBB.out.size HVB.out n2 HYB.out 1), (fun e => by cases e)⟩
       focus
        refine ⟨?_, ?_, ?_, ?_, ?_, ?_, ?_, ?_, ?_, ?_, ?_, ?_, ?_, trivial⟩
        all_goals
         intro L a' w' xs hi hd hf hJ K hK
         obtain ⟨hv, hA, h16⟩ := hJ
         have HF := Lib.hid hf
         have HVA := Lib.hid hv
         have HLI := Lib.hid hi
         clear hf hv hi
        focus
         clear hd
         obtain ⟨ρ, hρ⟩ : ∃ ρ, a'.eval = ρ := ⟨_, rfl⟩
         have hcst : ∀ v, ρ (.const v) = v := fun v => (congrFun hρ (.const v)).symm
         have l9 : ρ (.tmp 9) = .pointer (some ⟨c2, 0, none⟩) := (congrFun hρ (.tmp 9)).symm.trans (HF.out.lo 9 rfl)
         rw [if_pos (by simp [Region.wanted])]
         unfold Oper.wp
         rw [hρ]
         clear hρ
         go_simp
         exact hK.out _ _ ⟨HVA.out.set (i := 0) (by rw [HVV.out]; rfl), (by simp only [updV_ne (xs := xs) (show (9 : Nat) ≠ 0 by decide), updV_ne (xs := xs) (show (10 : Nat) ≠ 0 by decide)]; exact hA), h16⟩
        focus
         obtain ⟨d0, _⟩ := hd
         obtain ⟨ρ, hρ⟩ : ∃ ρ, a'.eval = ρ := ⟨_, rfl⟩
         have hcst : ∀ v, ρ (.const v) = v := fun v => (congrFun hρ (.const v)).symm
         have v0 : ρ (.tmp 48) = .pointer (some ⟨c2, 1, none⟩) := (congrFun hρ (.tmp 48)).symm.trans ((HF.out.ev 0 rfl d0).trans (HVA.out 0 _ (by rw [HVV.out]; rfl) d0))
         have hN : L 12 = false := by
          cases e : L 12 with
          | false => rfl
          | true => have := (h16 e).1; rw [HLI.out] at this; cases this
         have m1 := (hA.hc hN).cell 1
         simp at m1
         rw [if_pos (by simp [Region.wanted])]
         unfold Oper.wp
         rw [hρ]
         clear hρ
         go_simp
         exact hK.out _ _ ⟨HVA.out.set (i := 1) (by rw [HVV.out]; rfl), (by simp only [updV_ne (xs := xs) (show (9 : Nat) ≠ 1 by decide), updV_ne (xs := xs) (show (10 : Nat) ≠ 1 by decide)]; exact hA), (fun e => ⟨rfl, (h16 e).2⟩)⟩
        focus
         clear hd
         obtain ⟨ρ, hρ⟩ : ∃ ρ, a'.eval = ρ := ⟨_, rfl⟩
         have hcst : ∀ v, ρ (.const v) = v := fun v => (congrFun hρ (.const v)).symm
         have l11 : ρ (.tmp 11) = .pointer (some ⟨zL, 0, none⟩) := (congrFun hρ (.tmp 11)).symm.trans (HF.out.lo 11 rfl)
         rw [if_pos (by simp [Region.wanted])]
         unfold Oper.wp
         rw [hρ]
         clear hρ
         go_simp
         exact hK.out _ _ ⟨HVA.out.set (i := 2) (by rw [HVV.out]; rfl), (by simp only [updV_ne (xs := xs) (show (9 : Nat) ≠ 2 by decide), updV_ne (xs := xs) (show (10 : Nat) ≠ 2 by decide)]; exact hA), h16⟩
        focus
         obtain ⟨d2, _⟩ := hd
         obtain ⟨ρ, hρ⟩ : ∃ ρ, a'.eval = ρ := ⟨_, rfl⟩
         have hcst : ∀ v, ρ (.const v) = v := fun v => (congrFun hρ (.const v)).symm
         have v2 : ρ (.tmp 50) = .pointer (some ⟨zL, 0, none⟩) := (congrFun hρ (.tmp 50)).symm.trans ((HF.out.ev 2 rfl d2).trans (HVA.out 2 _ (by rw [HVV.out]; rfl) d2))
         have m1 := (hA.cell (k := zL) (i := 0) HLBB.out.1 n4 n5).trans (HLBB.out.2 0)
         simp at m1
         rw [if_pos (by simp [Region.wanted])]
         unfold Oper.wp
         rw [hρ]
         clear hρ
         go_simp
         exact hK.out _ _ ⟨HVA.out.set (i := 3) (by rw [HVV.out]; rfl), (by simp only [updV_ne (xs := xs) (show (9 : Nat) ≠ 3 by decide), updV_ne (xs := xs) (show (10 : Nat) ≠ 3 by decide)]; exact hA), h16⟩
        focus
         clear hd
         obtain ⟨ρ, hρ⟩ : ∃ ρ, a'.eval = ρ := ⟨_, rfl⟩
         have hcst : ∀ v, ρ (.const v) = v := fun v => (congrFun hρ (.const v)).symm
         have l2 : ρ (.tmp 2) = .slice (some ⟨bw, ow, none⟩) W.length cw := (congrFun hρ (.tmp 2)).symm.trans (HF.out.lo 2 rfl)
         rw [if_pos (by simp [Region.wanted])]
         unfold Oper.wp
         rw [hρ]
         clear hρ
         go_simp
         exact hK.out _ _ ⟨HVA.out.set (i := 4) (by rw [HVV.out]; rfl), (by simp only [updV_ne (xs := xs) (show (9 : Nat) ≠ 4 by decide), updV_ne (xs := xs) (show (10 : Nat) ≠ 4 by decide)]; exact hA), h16⟩
        focus
         clear hd
         obtain ⟨ρ, hρ⟩ : ∃ ρ, a'.eval = ρ := ⟨_, rfl⟩
         have hcst : ∀ v, ρ (.const v) = v := fun v => (congrFun hρ (.const v)).symm
         have l10 : ρ (.tmp 10) = .int .i64 (k : Nat) := (congrFun hρ (.tmp 10)).symm.trans (HF.out.lo 10 rfl)
         rw [if_pos (by simp [Region.wanted])]
         unfold Oper.wp
         rw [hρ]
         clear hρ
         go_simp
         exact hK.out _ _ ⟨HVA.out.set (i := 5) (by rw [HVV.out]; rfl), (by simp only [updV_ne (xs := xs) (show (9 : Nat) ≠ 5 by decide), updV_ne (xs := xs) (show (10 : Nat) ≠ 5 by decide)]; exact hA), h16⟩
        focus
         obtain ⟨d4, d5, _⟩ := hd
         obtain ⟨ρ, hρ⟩ : ∃ ρ, a'.eval = ρ := ⟨_, rfl⟩
         have hcst : ∀ v, ρ (.const v) = v := fun v => (congrFun hρ (.const v)).symm
         have v4 : ρ (.tmp 52) = .slice (some ⟨bw, ow, none⟩) W.length cw := (congrFun hρ (.tmp 52)).symm.trans ((HF.out.ev 4 rfl d4).trans (HVA.out 4 _ (by rw [HVV.out]; rfl) d4))
         have v5 : ρ (.tmp 53) = .int .i64 (k : Nat) := (congrFun hρ (.tmp 53)).symm.trans ((HF.out.ev 5 rfl d5).trans (HVA.out 5 _ (by rw [HVV.out]; rfl) d5))
         rw [if_pos (by simp [Region.wanted])]
         unfold Oper.wp
         rw [hρ]
         clear hρ
         go_simp
         exact hK.out _ _ ⟨HVA.out.set (i := 6) (by rw [HVV.out]; rfl), (by simp only [updV_ne (xs := xs) (show (9 : Nat) ≠ 6 by decide), updV_ne (xs := xs) (show (10 : Nat) ≠ 6 by decide)]; exact hA), h16⟩
        focus
         obtain ⟨d6, _⟩ := hd
         obtain ⟨ρ, hρ⟩ : ∃ ρ, a'.eval = ρ := ⟨_, rfl⟩
         have hcst : ∀ v, ρ (.const v) = v := fun v => (congrFun hρ (.const v)).symm
         have v6 : ρ (.tmp 54) = .pointer (some ⟨bw, ow + k, none⟩) := (congrFun hρ (.tmp 54)).symm.trans ((HF.out.ev 6 rfl d6).trans (HVA.out 6 _ (by rw [HVV.out]; rfl) d6))
         have m1 := HWC.out _ hA.hb
         rw [if_pos (by simp [Region.wanted])]
         unfold Oper.wp
         rw [hρ]
         clear hρ
         go_simp
         exact hK.out _ _ ⟨HVA.out.set (i := 7) (by rw [HVV.out]; rfl), (by simp only [updV_ne (xs := xs) (show (9 : Nat) ≠ 7 by decide), updV_ne (xs := xs) (show (10 : Nat) ≠ 7 by decide)]; exact hA), h16⟩
        focus
         obtain ⟨d3, d7, _⟩ := hd
         obtain ⟨ρ, hρ⟩ : ∃ ρ, a'.eval = ρ := ⟨_, rfl⟩
         have hcst : ∀ v, ρ (.const v) = v := fun v => (congrFun hρ (.const v)).symm
         have v3 : ρ (.tmp 51) = .slice ai (lotAt f.lots k).ins.length ci := (congrFun hρ (.tmp 51)).symm.trans ((HF.out.ev 3 rfl d3).trans (HVA.out 3 _ (by rw [HVV.out]; rfl) d3))
         have v7 : ρ (.tmp 55) = .slice ar (rowAt W k).length cr := (congrFun hρ (.tmp 55)).symm.trans ((HF.out.ev 7 rfl d7).trans (HVA.out 7 _ (by rw [HVV.out]; rfl) d7))
         rw [if_pos (by simp [Region.wanted])]
         unfold Oper.wp
         rw [hρ]
         clear hρ
         go_simp
         exact hK.out _ _ ⟨HVA.out.set (i := 8) (by rw [HVV.out]; rfl), (by simp only [updV_ne (xs := xs) (show (9 : Nat) ≠ 8 by decide), updV_ne (xs := xs) (show (10 : Nat) ≠ 8 by decide)]; exact hA), h16⟩
        focus
         obtain ⟨d8, _⟩ := hd
         obtain ⟨ρ, hρ⟩ : ∃ ρ, a'.eval = ρ := ⟨_, rfl⟩
         have hcst : ∀ v, ρ (.const v) = v := fun v => (congrFun hρ (.const v)).symm
         have v8 : ρ (.tmp 56) = .agg #[.slice ai (lotAt f.lots k).ins.length ci, .bool true, .slice ar (rowAt W k).length cr] := (congrFun hρ (.tmp 56)).symm.trans ((HF.out.ev 8 rfl d8).trans (HVA.out 8 _ (by rw [HVV.out]; rfl) d8))
         rw [if_pos (by simp [Region.wanted])]
         unfold Oper.wp
         rw [hρ]
         clear hρ
         go_simp
         exact hK.out _ _ ⟨HVA.out.free (i := 9) (by rw [HVV.out]; rfl) _, (by simp only [updV_ne (xs := xs) (show (10 : Nat) ≠ 9 by decide), updV_self]; exact hA.sb HLI.out _ rfl), h16⟩
        focus
         obtain ⟨d1, d9, _⟩ := hd
         have v1 : a'.eval (.tmp 49) = .slice av nv cv := (HF.out.ev 1 rfl d1).trans (HVA.out 1 _ (by rw [HVV.out]; rfl) d1)
         have v9 : a'.eval (.tmp 57) = xs 9 := HF.out.ev 9 rfl d9
         rw [if_pos (by simp [Region.wanted])]
         obtain ⟨q, e13, q1, q2⟩ := hA.hq d9 HLI.out
         rw [e13] at v9
         have hsrc : SrcLots w.heap.size w' (.slice (some ⟨q, 0, none⟩) 1 1) [⟨(lotAt f.lots k).ins, true, rowAt W k⟩] := srcLots_one (q2.cell 0) (q2.cell 1) (q2.cell 2) (HLX.out _ hA.hb)
         obtain ⟨v5, w5, y1, y2, y3, y4⟩ := run_append_lots (ty := 22) (hA.hv HLI.out) hsrc (by have := HLL.out; simp; omega) (Nat.le_trans hA.hC.2.2 hA.sz)
         refine wp_of_append w' rfl v1 v9 y1 ?_
         exact hK.out _ _ ⟨HVA.out.free (i := 10) (by rw [HVV.out]; rfl) _, (by simp only [updV_ne (xs := xs) (show (9 : Nat) ≠ 10 by decide), updV_self]; exact hA.sa HLI.out d9 y2 y3 y4), (fun e => by have := (h16 e).2; rw [HLI.out] at this; cases this)⟩
        focus
         obtain ⟨d0, d1, d2, d3, d4, d5, d6, d7, d8, d9, d10, _⟩ := hd
         obtain ⟨ρ, hρ⟩ : ∃ ρ, a'.eval = ρ := ⟨_, rfl⟩
         have hcst : ∀ v, ρ (.const v) = v := fun v => (congrFun hρ (.const v)).symm
         have l9 : ρ (.tmp 9) = .pointer (some ⟨c2, 0, none⟩) := (congrFun hρ (.tmp 9)).symm.trans (HF.out.lo 9 rfl)
         rw [if_pos (by simp [Region.wanted])]
         unfold Oper.wp
         rw [hρ]
         clear hρ
         go_simp
         exact hK.out _ _ ⟨HVA.out.set (i := 11) (by rw [HVV.out]; rfl), (by simp only [updV_ne (xs := xs) (show (9 : Nat) ≠ 11 by decide), updV_ne (xs := xs) (show (10 : Nat) ≠ 11 by decide)]; exact hA), h16⟩
        focus
         obtain ⟨d11, d10, _, d0, d1, d2, d3, d4, d5, d6, d7, d8, d9, _, _⟩ := hd
         obtain ⟨ρ, hρ⟩ : ∃ ρ, a'.eval = ρ := ⟨_, rfl⟩
         have hcst : ∀ v, ρ (.const v) = v := fun v => (congrFun hρ (.const v)).symm
         have v11 : ρ (.tmp 59) = .pointer (some ⟨c2, 1, none⟩) := (congrFun hρ (.tmp 59)).symm.trans ((HF.out.ev 11 rfl d11).trans (HVA.out 11 _ (by rw [HVV.out]; rfl) d11))
         have v10 : ρ (.tmp 58) = xs 10 := (congrFun hρ (.tmp 58)).symm.trans (HF.out.ev 10 rfl d10)
         rw [if_pos (by simp [Region.wanted])]
         unfold Oper.wp
         rw [hρ]
         clear hρ
         obtain ⟨o1, o2, _⟩ := hA.ha d10
         obtain ⟨a8, n8, c8, e8⟩ : ∃ a n c, xs 10 = .slice a n c := by obtain ⟨a, c, e⟩ := o1.form; exact ⟨_, _, _, e⟩
         have HE8 := Lib.hid e8
         rw [e8] at v10
         have hSS := Lib.hid (hA.ss HLI.out d10)
         rw [e8] at hSS
         have fz := (hA.hc HLI.out).free 1
         have m1 := (hA.hc HLI.out).cell 1
         simp at m1
         clear o1 o2 e8
         go_simp
         exact hK.out undef _ ⟨HVA.out.free (i := 12) (by rw [HVV.out]; rfl) _, (by simp only [updV_ne (xs := xs) (show (9 : Nat) ≠ 12 by decide), updV_ne (xs := xs) (show (10 : Nat) ≠ 12 by decide)]; rw [HE8.out]; exact hSS.out), (fun _ => ⟨d1, d10⟩)⟩
       focus
        intro L w' xs hL hJ
        obtain ⟨hv, hA, h16⟩ := hJ
        have e0 : xs 0 = .pointer (some ⟨c2, 1, none⟩) := hv 0 _ (by rw [HVV.out]; rfl) (hL 0 (by decide))
        have e1 : xs 1 = .slice av nv cv := hv 1 _ (by rw [HVV.out]; rfl) (hL 1 (by decide))
        have e2 : xs 2 = .pointer (some ⟨zL, 0, none⟩) := hv 2 _ (by rw [HVV.out]; rfl) (hL 2 (by decide))
        have e3 : xs 3 = .slice ai (lotAt f.lots k).ins.length ci := hv 3 _ (by rw [HVV.out]; rfl) (hL 3 (by decide))
        have e4 : xs 4 = .slice (some ⟨bw, ow, none⟩) W.length cw := hv 4 _ (by rw [HVV.out]; rfl) (hL 4 (by decide))
        have e5 : xs 5 = .int .i64 (k : Nat) := hv 5 _ (by rw [HVV.out]; rfl) (hL 5 (by decide))
        have e6 : xs 6 = .pointer (some ⟨bw, ow + k, none⟩) := hv 6 _ (by rw [HVV.out]; rfl) (hL 6 (by decide))
        have e7 : xs 7 = .slice ar (rowAt W k).length cr := hv 7 _ (by rw [HVV.out]; rfl) (hL 7 (by decide))
        have e8 : xs 8 = .agg #[.slice ai (lotAt f.lots k).ins.length ci, .bool true, .slice ar (rowAt W k).length cr] := hv 8 _ (by rw [HVV.out]; rfl) (hL 8 (by decide))
        have e11 : xs 11 = .pointer (some ⟨c2, 1, none⟩) := hv 11 _ (by rw [HVV.out]; rfl) (hL 11 (by decide))
        simp only [putGo, Act.put, List.setIfInBounds_toArray, List.set_cons_zero, List.set_cons_succ, e0, e1, e2, e3, e4, e5, e6, e7, e8, e11]
        clear hv e0 e1 e2 e3 e4 e5 e6 e7 e8 e11
       have hX := (h16 (hL 12 (by decide))).2
       have hX12 := hL 12 (by decide)
       have HAP := Lib.hid hA
       clear h16 hA hL
       go_wp2
       go_roundw
       case rel =>
        obtain ⟨o1, o2, o3⟩ := HAP.out.ha hX
        refine ⟨k + 1, xs 10, by omega, by go_num, by rw [HLS.out]; exact o1, o2, fun e => ?_, ⟨Nat.lt_of_lt_of_le n6 HAP.out.sz, fun i => (HAP.out.cell n6 n0 n3).trans (HX0B.out.2 i)⟩, HAP.out.he hX12, HAP.out.hb, HKS.out⟩
        rcases o3 with o3 | ⟨q, o3, hq⟩
        ·rw [o3] at e; exact n3 e
        ·rw [o3] at e; simp at e; omega
       case measure => simp [intOf]; omega
    ·obtain rfl : k = f.lots.length := by omega
     obtain ⟨av, cv, rfl⟩ := hv.form
     have y0 := HY2.out.cell 0
     have y1 := HY2.out.cell 1
     simp at y0 y1
     have HRM : Hid (RB = (decide (mapE (alongF f W) = 0) && sameB (mapR (alongF f W)) zs)) := Lib.hid (by rw [← HRB.out]; exact right_map HCK.out HLW.out HKR.out)
     have HMP := Lib.hid (fmap_any wr.heap.size wr (.int .i64 f.senders) (.slice av (alongL f W f.lots.length).length cv) (alongF f W) ⟨rfl, ⟨hs1, hs2⟩, HV.out.isLots HBR.out.size⟩ (Nat.le_refl _))
     obtain ⟨ME, hME⟩ : ∃ x, mapE (alongF f W) = x := ⟨_, rfl⟩
     obtain ⟨MR, hMR⟩ : ∃ x, mapR (alongF f W) = x := ⟨_, rfl⟩
     rw [hME] at HMP HRM
     rw [hMR] at HMP HRM
     clear hME hMR hv x0 hlt
     by_cases hm : ME = 0
     ·have hm1 : (ME == 0) = true := by simpa using hm
      have HM0 := Lib.hid hm
      obtain ⟨SB, hSB⟩ : ∃ x, sameB MR zs = x := ⟨_, rfl⟩
      have HRM2 : Hid (RB = SB) := Lib.hid (by rw [HRM.out, decide_eq_true hm, Bool.true_and, hSB])
      have HSB := Lib.hid hSB
      clear hm hSB
      go_wp2_with (first
       | (go_at_call 23; refine HMP.out.mono ?_; rintro e w5 ⟨v5, rfl, ho5, hb5⟩; obtain ⟨a5, n5, c5, rfl⟩ := ho5.form'; have HO5 := Lib.hid ho5; have HB5 := Lib.hid hb5; clear ho5 hb5)
       | (go_at_call 38; refine (equal_any _ B w5 _ _ _ _ HO5.out.isInts (HZ.out.below (HBR.out.trans (HB5.out.mono HBR.out.size)) hB)).mono ?_; rintro e w6 ⟨rfl, hd6⟩; rw [HSB.out]; have HD6 := Lib.hid hd6; clear hd6))
      go_ret2
      exact ⟨by rw [HRM2.out, HE0.out]; rfl, (HBR.out.trans (HB5.out.mono HBR.out.size)).trans (HD6.out.below _)⟩
     ·have hm1 : (ME == 0) = false := by simpa using hm
      have hrb : RB = false := by rw [HRM.out, decide_eq_false hm, Bool.false_and]
      clear hm
      go_wp2_with (go_at_call 23; refine HMP.out.mono ?_; rintro e w5 ⟨v5, rfl, ho5, hb5⟩; obtain ⟨a5, n5, c5, rfl⟩ := ho5.form'; have HO5 := Lib.hid ho5; have HB5 := Lib.hid hb5; clear ho5 hb5)
      go_ret2
      exact ⟨by rw [hrb, HE0.out]; rfl, HBR.out.trans (HB5.out.mono HBR.out.size)⟩
  ·have hd : ((W.length : Int) != (f.lots.length : Int)) = true := by simp; omega
   have hd2 : (W.length != f.lots.length) = true := by simpa using hlw
   have hrb : RB = false := by rw [← HRB.out]; exact right_len hlw
   clear hlw
   go_wp2
   go_ret2
   exact ⟨by rw [hrb, HE0.out]; rfl, HW2.out⟩
 ·have he1 : (ER != 0) = true := by simpa using he
  have hrb : RB = false := by rw [← HRB.out]; exact right_err (by rw [HER.out]; exact he)
  clear he
  go_wp2
  go_ret2
  exact ⟨by rw [hrb]; rfl, HW2.out⟩
end Go.Proofs.Yteiaeaciaglmgaa
set_option linter.unusedVariables false
set_option linter.unusedSimpArgs false
namespace Go.Proofs.Yteiaeaciaglmgaa
open Go.RowKit
/-- block bm is a map of the senders below n, each at its spot -/
def OfMap (W : World) (bm n : Nat) (P : Nat → Int) : Prop := ∃ l, IntMap W bm l ∧ Sat n P l
theorem OfMap.turned {X : Nat → Prop} {W W' : World} {bm n : Nat} {P : Nat → Int} (h : OfMap W bm n P) (ht : Turned X W W') (hx : ¬ X bm) : OfMap W' bm n P := by
 obtain ⟨l, h1, h2⟩ := h
 exact ⟨l, h1.turned ht hx, h2⟩
theorem OfMap.ext {W W' : World} {bm n : Nat} {P : Nat → Int} (h : OfMap W bm n P) (hb : Below W.heap.size W W') : OfMap W' bm n P := by
 obtain ⟨l, h1, h2⟩ := h
 exact ⟨l, h1.ext hb, h2⟩
theorem OfMap.eq {W : World} {bm n : Nat} {P P' : Nat → Int} (h : OfMap W bm n P) (he : ∀ s, s < n → P s = P' s) : OfMap W bm n P' := by
 obtain ⟨l, h1, h2⟩ := h
 exact ⟨l, h1, h2.eq he⟩
theorem OfMap.lt {W : World} {bm n : Nat} {P : Nat → Int} (h : OfMap W bm n P) : bm < W.heap.size := by obtain ⟨l, h, _⟩ := h; exact h.lt
set_option maxHeartbeats 2000000 in
set_option maxRecDepth 100000 in
/-- walk: move -/
theorem move_any (W : World) (cm bm n t : Nat) (P P' : Nat → Int) (y : Int) (h1 : Cell1 W cm (.map (some bm))) (h2 : OfMap W bm n P) (hne : cm ≠ bm) (ht : t < n) (hy : ∀ s, s < n → P s ≠ y) (hp : ∀ s, s < n → P' s = if s = t then y else P s) :
  Calls Try.prog 62 #[.int .i64 (P t), .int .i64 y, .pointer (some ⟨cm, 0, none⟩)] W fun e W' => (∃ v, e = .returned v) ∧ OfMap W' bm n P' ∧ Turned (fun q => q = bm) W W' := by
 obtain ⟨l, hl1, hl2⟩ := h2
 have HL := Lib.hid hl1
 have HS := Lib.hid (hl2.move ht hy hp)
 have HLK := Lib.hid (hl2.look ht)
 have m1 := h1.cell
 have HC := Lib.hid h1
 obtain ⟨x, hx⟩ : ∃ x, P t = x := ⟨_, rfl⟩
 rw [hx] at HS HLK ⊢
 clear hl1 hl2 hx h1
 go_enter Try.func62, Try.ntmps62
 go_wp2_with (first
  | (at_lookup; refine wpList_lookup_ints rfl _ _ false rfl Try.underlying62 Try.underlying3 (Try.zeroValue3 _) rfl HL.out rfl ?_; rw [HLK.out])
  | (at_mapUpdate; refine wpList_update_ints (x := y) (v := .int .i64 (t : Int)) rfl _ _ _ rfl Try.underlying62 Try.underlying3 rfl HL.out rfl rfl ?_; intro w8 hs8 hg8 hz8; have HS8 := Lib.hid hs8; have HG8 := Lib.hid hg8; clear hs8 hg8 hz8; have m2 := (HC.out.grown HG8.out (fun e => hne (by simpa using e))).cell)
  | (at_delete; refine wpList_delete_ints rfl _ _ rfl Try.underlying62 Try.underlying3 rfl HS8.out rfl ?_; intro w9 hm9 hg9 hz9; have HM9 := Lib.hid hm9; have HG9 := Lib.hid hg9; clear hm9 hg9 hz9))
 go_end0
 exact ⟨⟨_, rfl⟩, ⟨_, HM9.out, HS.out⟩, (Turned.of_grown HG8.out (fun q e => by simpa using e.symm)).trans (Turned.of_grown HG9.out (fun q e => by simpa using e.symm))⟩
set_option maxHeartbeats 4000000 in
set_option maxRecDepth 100000 in
/-- explain.lots.stuck -/
theorem stuck_any (C D B : Nat) (W : World) (q0 bm n : Nat) (vl va : Value) (f : Flow) (zs : List Int) (P : Nat → Int) (hlo : LotsAt C D W q0 vl f) (hc : checkE f = 0) (hof : OfMap W bm n P) (hz : IsInts B W va zs) (hn : zs.length = n) (hB : B ≤ W.heap.size) :
  Calls Try.prog 42 #[.pointer (some ⟨q0, 0, none⟩), .map (some bm), va] W fun e W' => e = .returned (.int .i64 (leastN (fun i => !leadE f (P i) (nth zs i)) n)) ∧ Below W.heap.size W W' := by
 obtain ⟨l, hl1, hl2⟩ := hof
 have HL := Lib.hid hl1
 have HS := Lib.hid hl2
 have HLO := Lib.hid hlo
 have HZ := Lib.hid hz
 obtain ⟨bz, oz, cz, ⟨az, rfl, hz1, hz2, hz3⟩, hz4, hz5, hzc⟩ := hz
 have HZ3 := Lib.hid hz3
 have HZC := Lib.hid hzc
 have hbm := hl1.lt
 have HN := Lib.hid hn
 clear hl1 hl2 hlo hz3 hzc hn
 go_enter Try.func42, Try.ntmps42
 go_wp2_with (refine wpList_range_ints rfl (.tmp 10) rfl Try.underlying62 rfl HL.out ?_; intro w9 hit9 hb9 hz9; have HIT9 := Lib.hid hit9; have HB9 := Lib.hid hb9; clear hit9 hb9 hz9)
 obtain ⟨r, hr⟩ : ∃ x, W.heap.size = x := ⟨_, rfl⟩
 have HR := Lib.hid hr
 rw [hr] at HIT9 hbm ⊢
 rw [hr] at HB9
 have hne : r ≠ bm := by omega
 clear hr
 simp only [Act.put, List.setIfInBounds_toArray, List.set_cons_zero, List.set_cons_succ]
 go_loopw [7] (fun v7 W' => ∃ (left : AL) (z : Int), v7 = .int .i64 z ∧ MapIter W' bm r l left ∧ (∀ p ∈ left, p ∈ l) ∧ Below r W W' ∧ -1 ≤ z ∧ z < n ∧
  (∀ j : Nat, j < n → (P j, Value.int .i64 (j : Int)) ∉ left → (!leadE f (P j) (nth zs j)) = true → 0 ≤ z ∧ z ≤ j) ∧ (0 ≤ z → (!leadE f (P z.toNat) (nth zs z.toNat)) = true)) (fun _ W' => iterLeft W' bm r)
 case atStart => exact ⟨l, -1, rfl, HIT9.out, fun p hp => hp, HB9.out, by omega, by omega, fun j hj hn => absurd ((HS.out.2 _ _).2 ⟨j, hj, rfl, rfl⟩) hn, fun h => by omega⟩
 case round =>
  obtain ⟨left, z, rfl, hit, hsub, hbl, hz0, hzn, hdone, hbad⟩ := hrel
  have HIT := Lib.hid hit
  have HLEFT := Lib.hid hit.left
  have HSUB := Lib.hid hsub
  have HBL := Lib.hid hbl
  have HDO := Lib.hid hdone
  have HBA := Lib.hid hbad
  clear hit hsub hbl hdone hbad HIT9 HB9
  by_cases hlf : left = []
  ·have HRES : Hid (leastN (fun i => !leadE f (P i) (nth zs i)) n = z) := Lib.hid (by
    by_cases h0 : 0 ≤ z
    ·rw [leastN_first (i := z.toNat) (by omega) (fun j hj => by
      cases e : (!leadE f (P j) (nth zs j)) with
      | false => rfl
      | true => have := HDO.out j (by omega) (by rw [hlf]; simp) e; omega) (HBA.out h0)]
     omega
    ·rw [leastN_none (fun j hj => by
      cases e : (!leadE f (P j) (nth zs j)) with
      | false => rfl
      | true => have := HDO.out j hj (by rw [hlf]; simp) e; omega)]
     omega)
   go_wp2_with (refine wpList_next_doneA rfl (.tmp 11) rfl rfl HIT.out hne hlf ?_)
   go_ret
   exact ⟨by rw [HRES.out]; rfl, by rw [HR.out]; exact HBL.out⟩
  ·go_upto_region 5 with (refine wpList_next_moreA rfl (.tmp 11) rfl rfl HIT.out hne hlf ?_; intro A x v B' w3 hl2 hit3 hg3 hz3 hen; have HIT3 := Lib.hid hit3; have HG3 := Lib.hid hg3; have HL2 := Lib.hid hl2; obtain ⟨s, hs, hps, rfl⟩ := (HS.out.2 x v).1 (HSUB.out _ (by rw [hl2]; simp)); have HPS := Lib.hid hps; clear hit3 hg3 hz3 hl2 hps)
   have hl2 := HL2.out
   have hps := HPS.out
   have HB3 : Hid (Below r W w3) := Lib.hid (HBL.out.grown HG3.out (by have := HBL.out.size; rw [← HR.out]; exact this) (fun q hq => by cases hq; exact Nat.le_refl _))
   have HLN : Hid ((A ++ B').length < left.length) := Lib.hid (by rw [hl2]; simp)
   have HLF3 := Lib.hid HIT3.out.left
   have HSUB2 : Hid (∀ p ∈ A ++ B', p ∈ l) := Lib.hid fun p hp => HSUB.out p (by
    rw [hl2]
    rcases List.mem_append.1 hp with h | h
    ·exact List.mem_append_left _ h
    ·exact List.mem_append_right _ (List.mem_cons_of_mem _ h))
   have HIN2 : Hid (∀ j : Nat, j ≠ s → (P j, Value.int .i64 (j : Int)) ∉ A ++ B' → (P j, Value.int .i64 (j : Int)) ∉ left) := Lib.hid fun j hjs hn h => hn (by
    rw [hl2] at h
    rcases List.mem_append.1 h with h | h
    ·exact List.mem_append_left _ h
    ·rcases List.mem_cons.1 h with h | h
     ·simp only [Prod.mk.injEq, Value.int.injEq] at h
      exact absurd (by have := h.2; omega) hjs
     ·exact List.mem_append_right _ h)
   have hbs : s < zs.length := by rw [HN.out]; exact hs
   obtain rfl : az = some ⟨bz, oz, none⟩ := by rcases HZ3.out with h | h; exact h; omega
   have hbz := (HZC.out s hbs).1
   have c1 := (HB3.out.cell (p := ⟨bz, oz + s, none⟩) (by rw [← HR.out]; show bz < _; omega)).trans (HZC.out s hbs).2
   have HLOT := Lib.hid (HLO.out.turned (X := fun q => r ≤ q) ⟨HB3.out.os, HB3.out.tape, HB3.out.output, HB3.out.size, fun q hq hx => HB3.out.block q (by omega)⟩ (fun q a1 a2 hx => by
    obtain ⟨_, _, _, _, g1, g2, g3, g4, _⟩ := HLO.out.lay
    rw [HR.out] at g4
    omega))
   obtain ⟨LE, hLE⟩ : ∃ y, leadE f (P s) (nth zs s) = y := ⟨_, rfl⟩
   have HLE := Lib.hid hLE
   rw [hps] at hLE
   have HLE2 := Lib.hid hLE
   obtain ⟨xs, hxs⟩ : ∃ y, nth zs s = y := ⟨_, rfl⟩
   rw [hxs] at c1
   rw [hxs] at HLE2
   clear hl2 hps hLE hxs hbz
   cases LE
   ·by_cases hzz : z < 0
    ·have hd1 : decide (z < 0) = true := decide_eq_true hzz
     go_wp2_with (go_at_call 33; refine (leads_any C D w3 q0 vl f _ _ HLOT.out hc).mono ?_; rintro e w9 ⟨rfl, rfl⟩; rw [HLE2.out])
     go_roundw
     case rel =>
      refine ⟨A ++ B', (s : Int), rfl, HIT3.out, HSUB2.out, HB3.out, by omega, by omega, fun j hj hn hb => ⟨by omega, ?_⟩, fun _ => by simp [HLE.out]⟩
      by_cases e : j = s
      ·omega
      ·have := HDO.out j hj (HIN2.out j e hn) hb; omega
     case measure => rw [HLF3.out, HLEFT.out]; exact HLN.out
    ·have hd1 : decide (z < 0) = false := decide_eq_false hzz
     by_cases hsz : (s : Int) < z
     ·have hd2 : decide ((s : Int) < z) = true := decide_eq_true hsz
      go_wp2_with (go_at_call 33; refine (leads_any C D w3 q0 vl f _ _ HLOT.out hc).mono ?_; rintro e w9 ⟨rfl, rfl⟩; rw [HLE2.out])
      go_roundw
      case rel =>
       refine ⟨A ++ B', (s : Int), rfl, HIT3.out, HSUB2.out, HB3.out, by omega, by omega, fun j hj hn hb => ⟨by omega, ?_⟩, fun _ => by simp [HLE.out]⟩
       by_cases e : j = s
       ·omega
       ·have := HDO.out j hj (HIN2.out j e hn) hb; omega
      case measure => rw [HLF3.out, HLEFT.out]; exact HLN.out
     ·have hd2 : decide ((s : Int) < z) = false := decide_eq_false hsz
      go_wp2_with (go_at_call 33; refine (leads_any C D w3 q0 vl f _ _ HLOT.out hc).mono ?_; rintro e w9 ⟨rfl, rfl⟩; rw [HLE2.out])
      go_roundw
      case rel =>
       refine ⟨A ++ B', z, rfl, HIT3.out, HSUB2.out, HB3.out, hz0, hzn, fun j hj hn hb => ?_, HBA.out⟩
       by_cases e : j = s
       ·omega
       ·exact HDO.out j hj (HIN2.out j e hn) hb
      case measure => rw [HLF3.out, HLEFT.out]; exact HLN.out
   ·go_wp2_with (go_at_call 33; refine (leads_any C D w3 q0 vl f _ _ HLOT.out hc).mono ?_; rintro e w9 ⟨rfl, rfl⟩; rw [HLE2.out])
    go_roundw
    case rel =>
     refine ⟨A ++ B', z, rfl, HIT3.out, HSUB2.out, HB3.out, hz0, hzn, fun j hj hn hb => ?_, HBA.out⟩
     by_cases e : j = s
     ·subst e; rw [HLE.out] at hb; cases hb
     ·exact HDO.out j hj (HIN2.out j e hn) hb
    case measure => rw [HLF3.out, HLEFT.out]; exact HLN.out
end Go.Proofs.Yteiaeaciaglmgaa
set_option linter.unusedVariables false
set_option linter.unusedSimpArgs false
namespace Go.Proofs.Yteiaeaciaglmgaa
open Go.RowKit
/-- one letter goes from x to y, where none was -/
structure StepM (n : Nat) (P P' : Nat → Int) (x y : Int) : Prop where
 ex : ∃ t, t < n ∧ P t = x ∧ P' t = y ∧ (∀ s, s < n → P s ≠ y) ∧ (∀ s, s < n → P' s ≠ x) ∧ ∀ s, s < n → s ≠ t → P' s = P s
theorem StepM.back {n : Nat} {P P' : Nat → Int} {x y : Int} (h : StepM n P P' x y) : StepM n P' P y x := by
 obtain ⟨t, h1, h2, h3, h4, h5, h6⟩ := h.ex
 exact ⟨t, h1, h3, h2, h5, h4, fun s hs he => (h6 s hs he).symm⟩
/-- where a sender's letter is, if the first i inputs of the next lot go by a row -/
def posR (f : Flow) (w : List (List Int)) (i : Nat) (row : List Int) (s : Nat) : Int := mvI ((lotAt f.lots w.length).ins.take i) row (beforeI f w.length) (posW f w w.length s)
theorem posS_R (f : Flow) (w : List (List Int)) (part : List Int) : posS f w part = posR f w part.length part := rfl
theorem mv_row {ins : List Int} (hn : ins.Nodup) {q : Nat} (hq : q ≤ ins.length) {r r' : List Int} (h : ∀ j, j < q → nth r j = nth r' j) (b y : Int) : mvI (ins.take q) r b y = mvI (ins.take q) r' b y := by
 unfold mvI
 by_cases hh : hasB (ins.take q) y = true
 ·rw [if_pos hh, if_pos hh, h _ (take_idx hn hq hh).1]
 ·rw [if_neg hh, if_neg hh]
theorem mv_cases {ins : List Int} (hn : ins.Nodup) {q : Nat} (hq : q ≤ ins.length) (r : List Int) (b y : Int) : (∃ j, j < q ∧ mvI (ins.take q) r b y = b + nth r j) ∨ mvI (ins.take q) r b y = y := by
 unfold mvI
 by_cases hh : hasB (ins.take q) y = true
 ·rw [if_pos hh]; exact .inl ⟨_, (take_idx hn hq hh).1, rfl⟩
 ·rw [if_neg hh]; exact .inr rfl
theorem nth_pre {l : List Int} {x : Int} {j : Nat} (h : j < l.length) : nth (l ++ [x]) j = nth l j := by
 rw [nth_lt (by simp; omega), nth_lt h, List.getElem_append_left h]
theorem posR_step {f : Flow} {w : List (List Int)} (hc : checkE f = 0) (hw : WayOk f w w.length) (hk : w.length < f.lots.length) {i : Nat} (hi : i < (lotAt f.lots w.length).ins.length) {row : List Int} (hlow : ∀ j, j ≤ i → 0 ≤ nth row j) (hd : ∀ j, j < i → nth row j ≠ nth row i) :
  StepM f.senders.toNat (posR f w i row) (posR f w (i + 1) row) (nth (lotAt f.lots w.length).ins i) (beforeI f w.length + nth row i) := by
 obtain ⟨h0, h64, hl2, hb5, hlo⟩ := checkE_ok hc
 have hl : lotsB f w.length = true := lotsB_le hlo (by omega)
 obtain ⟨l1, l2, l3, _⟩ := lotB_parts (lotsB_lot hlo hk)
 obtain ⟨g1, g2, g3⟩ := l3 _ (nth_mem' hi)
 obtain ⟨t, ht, e⟩ := pos_hit h0 (Nat.le_of_lt hk) hl hw g1 g2 g3
 have hlt : ∀ s, s < f.senders.toNat → posW f w w.length s < beforeI f w.length := fun s hs => (pos_lt h0 (Nat.le_of_lt hk) hl hw hs).2.1
 have hin : ∀ s, s < f.senders.toNat → nth (lotAt f.lots w.length).ins i = posW f w w.length s → s = t := fun s hs h => pos_inj h0 (Nat.le_of_lt hk) hl hw hs ht (h.symm.trans e.symm)
 have hnt : hasB ((lotAt f.lots w.length).ins.take i) (nth (lotAt f.lots w.length).ins i) = false := by
  cases hh : hasB ((lotAt f.lots w.length).ins.take i) (nth (lotAt f.lots w.length).ins i) with
  | false => rfl
  | true =>
   have h1 := take_idx l2 (Nat.le_of_lt hi) hh
   have h2 := (idx_take l2 (show i < i + 1 by omega) (show i + 1 ≤ _ by omega))
   have h3 : (lotAt f.lots w.length).ins.idxOf (nth (lotAt f.lots w.length).ins i) = i := by
    rw [← (take_idx l2 (show i + 1 ≤ _ by omega) h2.2).2.1]; exact h2.1
   omega
 refine ⟨t, ht, ?_, ?_, fun s hs => ?_, fun s hs => ?_, fun s hs hne => ?_⟩
 ·unfold posR
  rw [e]
  unfold mvI
  rw [if_neg (by simp [hnt])]
 ·unfold posR
  rw [mv_next l2 hi, if_pos e.symm]
 ·unfold posR
  rcases mv_cases l2 (Nat.le_of_lt hi) row (beforeI f w.length) (posW f w w.length s) with ⟨j, hj, h⟩ | h
  ·rw [h]; have := hd j hj; omega
  ·rw [h]; have := hlt s hs; have := hlow i (Nat.le_refl _); omega
 ·unfold posR
  rw [mv_next l2 hi]
  by_cases he : nth (lotAt f.lots w.length).ins i = posW f w w.length s
  ·rw [if_pos he]; have := hlow i (Nat.le_refl _); omega
  ·rw [if_neg he]
   rcases mv_cases l2 (Nat.le_of_lt hi) row (beforeI f w.length) (posW f w w.length s) with ⟨j, hj, h⟩ | h
   ·rw [h]; have := hlow j (by omega); omega
   ·rw [h]; exact fun h => he h.symm
 ·unfold posR
  rw [mv_next l2 hi, if_neg (fun h => hne (hin s hs h))]
/-- one more input decided -/
theorem posS_more {f : Flow} {w : List (List Int)} {part : List Int} (hc : checkE f = 0) (hs : StOk f w part) (hk : w.length < f.lots.length) (hp : part.length < (lotAt f.lots w.length).ins.length) {x : Int} (h0 : 0 ≤ x) (hx : hasB part x = false) :
  StepM f.senders.toNat (posS f w part) (posS f w (part ++ [x])) (nth (lotAt f.lots w.length).ins part.length) (beforeI f w.length + x) := by
 obtain ⟨_, _, _, _, hlo⟩ := checkE_ok hc
 obtain ⟨_, l2, _⟩ := lotB_parts (lotsB_lot hlo hk)
 have h := posR_step hc hs.way hk hp (row := part ++ [x]) (fun j hj => by
  by_cases e : j < part.length
  ·rw [nth_pre e, nth_lt e]; exact (hs.low _ (List.getElem_mem e)).1
  ·obtain rfl : j = part.length := by omega
   rw [nth_snoc]; exact h0) (fun j hj h => by
  rw [nth_snoc, nth_pre hj] at h
  rw [← h, hasB_mem.2 (nth_mem' hj)] at hx
  cases hx)
 rw [nth_snoc] at h
 have e1 : posS f w part = posR f w part.length (part ++ [x]) := by
  funext s
  exact mv_row l2 (by omega) (fun j hj => (nth_pre hj).symm) _ _
 have e2 : posS f w (part ++ [x]) = posR f w (part.length + 1) (part ++ [x]) := by
  rw [posS_R]
  simp
 rw [e1, e2]
 exact h
theorem posS_full {f : Flow} {w : List (List Int)} {row : List Int} (hk : w.length < f.lots.length) {s : Nat} : posR f w (lotAt f.lots w.length).ins.length row s = posS f (w ++ [row]) [] s := by
 unfold posS posR
 simp only [List.length_nil, List.take_length]
 rw [mv_zero, List.length_append, List.length_singleton, pos_step hk, pos_same (w := w ++ [row]) (w' := w) (Nat.le_of_lt hk) (fun j hj => by rw [rowAt_app, if_pos hj]) s]
 rw [show rowAt (w ++ [row]) w.length = row by rw [rowAt_app, if_neg (by omega), if_pos rfl]]
 rfl
theorem posS_zero (f : Flow) (w : List (List Int)) (row : List Int) : posR f w 0 row = posS f w [] := by
 funext s
 unfold posS posR
 simp only [List.length_nil]
 rw [mv_zero, mv_zero]
/-- walk: move, by a step -/
theorem move_step (W : World) (co bm n : Nat) (P P' : Nat → Int) (x y : Int) (h1 : Cell1 W co (.map (some bm))) (h2 : OfMap W bm n P) (hne : co ≠ bm) (hs : StepM n P P' x y) :
  Calls Try.prog 62 #[.int .i64 x, .int .i64 y, .pointer (some ⟨co, 0, none⟩)] W fun e W' => (∃ v, e = .returned v) ∧ OfMap W' bm n P' ∧ Turned (fun q => q = bm) W W' := by
 obtain ⟨t, ht, rfl, q2, q3, q4, q5⟩ := hs.ex
 refine move_any W co bm n t P P' y h1 h2 hne ht q3 (fun s hs' => ?_)
 by_cases e : s = t
 ·rw [if_pos e, e, q2]
 ·rw [if_neg e, q5 s hs' e]
set_option maxHeartbeats 2000000 in
set_option maxRecDepth 100000 in
/-- slices.Clone of nil -/
theorem clone_nil (w : World) :
  Calls Try.prog 57 #[.slice none 0 0] w fun e w' => e = .returned (.slice none 0 0) ∧ w' = w := by
 have hnil : (binOp .eql 25 (.slice none 0 0) (.slice none 0 0)).run Try.prog w = .ok (.bool true) w := Go.Lib.run_eql_slice_nil w _ _ _ _ _ _ _ Try.underlying25
 go_enter Try.func57, Try.ntmps57
 go_wp2
 go_ret
 exact ⟨rfl, rfl⟩
/-- slices.Clone of a list: nil or made -/
theorem clone_own (B : Nat) (w : World) (v : Value) (xs : List Int) (hx : IsInts B w v xs) (hv : v = .slice none 0 0 ∧ xs = [] ∨ ∃ b o c, v = .slice (some ⟨b, o, none⟩) xs.length c) (hB : B ≤ w.heap.size) :
  Calls Try.prog 57 #[v] w fun e w' => ∃ v', e = .returned v' ∧ OwnInts w.heap.size w' v' xs ∧ Below w.heap.size w w' := by
 rcases hv with ⟨rfl, rfl⟩ | ⟨b, o, c, rfl⟩
 ·refine (clone_nil w).mono ?_
  rintro e w' ⟨rfl, rfl⟩
  exact ⟨_, rfl, OwnInts.nil _ _, Below.refl _ _⟩
 ·exact clone_any B b o c w xs hx hB
end Go.Proofs.Yteiaeaciaglmgaa
set_option linter.unusedVariables false
set_option linter.unusedSimpArgs false
namespace Go.Proofs.Yteiaeaciaglmgaa
open Go.RowKit
/-- the blocks of walk -/
structure EnvW where
 B : Nat
 C : Nat
 C0 : Nat
 D0 : Nat
 q0 : Nat
 cx : Nat
 cp : Nat
 co : Nat
 bm : Nat
 cm : Nat
 cd : Nat
 pf : Nat
 p1 : Value
 p2 : Value
 p3 : Value
 p4 : Value
 vl : Value
 f : Flow
structure EnvW.Ok (E : EnvW) : Prop where
 o1 : E.B ≤ E.cp
 o2 : E.cp < E.C0
 o3 : E.C0 ≤ E.D0
 x1 : E.D0 ≤ E.cx ∧ E.cx < E.C
 x2 : E.D0 ≤ E.co ∧ E.co < E.C
 x3 : E.D0 ≤ E.bm ∧ E.bm < E.C
 x4 : E.D0 ≤ E.cm ∧ E.cm < E.C
 x5 : E.D0 ≤ E.cd ∧ E.cd < E.C
 ne : E.bm ≠ E.cx ∧ E.bm ≠ E.co ∧ E.bm ≠ E.cm ∧ E.bm ≠ E.cd
def EnvW.n (E : EnvW) : Nat := E.f.senders.toNat
def EnvW.PV (E : EnvW) : Value := .func (.func E.pf) #[] #[E.p1, E.p2, E.p3, E.p4]
def EnvW.MV (E : EnvW) : Value := .func (.func 62) #[] #[.pointer (some ⟨E.co, 0, none⟩)]
def EnvW.DV (E : EnvW) : Value := .func (.func 63) #[] #[.pointer (some ⟨E.cx, 0, none⟩), .pointer (some ⟨E.cp, 0, none⟩), .pointer (some ⟨E.co, 0, none⟩), .pointer (some ⟨E.cm, 0, none⟩), .pointer (some ⟨E.cd, 0, none⟩)]
/-- a block that is none of the walk's -/
def EnvW.Free (E : EnvW) (q : Nat) : Prop := E.B ≤ q ∧ q < E.C0 ∧ q ≠ E.cp ∨ E.C ≤ q
/-- what a walk keeps at a state -/
structure WalkS (E : EnvW) (w : List (List Int)) (part : List Int) (W : World) : Prop where
 lots : LotsAt E.C0 E.D0 W E.q0 E.vl E.f
 flow : IsLots E.B W E.vl E.f.lots
 cx : Cell1 W E.cx (.pointer (some ⟨E.q0, 0, none⟩))
 cp : Cell1 W E.cp E.PV
 co : Cell1 W E.co (.map (some E.bm))
 cm : Cell1 W E.cm E.MV
 cd : Cell1 W E.cd E.DV
 mp : OfMap W E.bm E.n (posS E.f w part)
 sz : E.C ≤ W.heap.size
theorem WalkS.moved {E : EnvW} (hE : E.Ok) {w w' : List (List Int)} {part part' : List Int} {W W' : World} (h : WalkS E w part W) {X : Nat → Prop} (ht : Turned (fun q => q = E.bm ∨ X q) W W') (hX : ∀ q, X q → E.Free q) (hm : OfMap W' E.bm E.n (posS E.f w' part')) : WalkS E w' part' W' := by
 have h1 := hE.o1
 have h2 := hE.o2
 have h3 := hE.o3
 have x1 := hE.x1
 have x2 := hE.x2
 have x3 := hE.x3
 have x4 := hE.x4
 have x5 := hE.x5
 obtain ⟨n1, n2, n3, n4⟩ := hE.ne
 have hn : ∀ q, q ≠ E.bm → (q < E.B ∨ E.C0 ≤ q ∧ q < E.C ∨ q = E.cp) → ¬ (q = E.bm ∨ X q) := fun q a b c => by
  rcases c with c | c
  ·exact a c
  ·have := hX q c
   unfold EnvW.Free at this
   omega
 have hlow := h.sz
 obtain ⟨_, _, _, _, _, _, _, hD, _⟩ := h.lots.lay
 refine ⟨?_, h.flow.below (ht.below (B := E.B) (by omega) (fun q hq => hn q (by omega) (by omega))) (Nat.le_refl _), h.cx.turned ht (hn _ (by omega) (by omega)), h.cp.turned ht (hn _ (by omega) (by omega)), h.co.turned ht (hn _ (by omega) (by omega)), h.cm.turned ht (hn _ (by omega) (by omega)), h.cd.turned ht (hn _ (by omega) (by omega)), hm, Nat.le_trans h.sz ht.size⟩
 exact h.lots.turned ht (fun q a b => hn q (by omega) (by omega))
theorem WalkS.turned {E : EnvW} (hE : E.Ok) {w : List (List Int)} {part : List Int} {W W' : World} (h : WalkS E w part W) {X : Nat → Prop} (ht : Turned X W W') (hX : ∀ q, X q → E.Free q) : WalkS E w part W' :=
 h.moved hE (ht.mono (fun q _ e => .inr e)) hX (h.mp.turned ht (fun e => by have := hX _ e; unfold EnvW.Free at this; have := hE.o3; have := hE.x3; omega))
theorem WalkS.ext {E : EnvW} (hE : E.Ok) {w : List (List Int)} {part : List Int} {W W' : World} (h : WalkS E w part W) (hb : Below W.heap.size W W') : WalkS E w part W' :=
 h.turned hE (X := fun _ => False) (Turned.of_below hb) (fun _ e => e.elim)
theorem WalkS.same {E : EnvW} {w w' : List (List Int)} {part part' : List Int} {W : World} (h : WalkS E w part W) (hm : ∀ s, s < E.n → posS E.f w part s = posS E.f w' part' s) : WalkS E w' part' W :=
 ⟨h.lots, h.flow, h.cx, h.cp, h.co, h.cm, h.cd, h.mp.eq hm, h.sz⟩
/-- who calls walk: T: what a call of its function may write; At: it is to be written now; Dn: it is written -/
structure Client (E : EnvW) where
 T : Type
 At : T → World → Prop
 Dn : Nat → T → List (List Int) → List Int → World → Prop
 X : T → Nat → Prop
 X0 : Nat → Prop
 res : Nat → T → List (List Int) → List Int → Bool
 keep : ∀ t W W', At t W → Turned (fun q => q = E.bm) W W' → At t W'
 keepD : ∀ m t w p W W', Dn m t w p W → Turned (fun q => q = E.bm) W W' → Dn m t w p W'
/-- all free places below i -/
def eachB (g : Nat → Nat → Bool) (part : List Int) : Nat → Bool
 | 0 => true
 | i + 1 => eachB g part i && (hasB part (i : Int) || g (freeK part i) i)
/-- the places taken: nil, or a list in blocks that stay -/
def Taken (E : EnvW) (X : Nat → Prop) (W : World) (v : Value) (part : List Int) : Prop :=
 v = .slice none 0 0 ∧ part = [] ∨ ∃ b o c, v = .slice (some ⟨b, o, none⟩) part.length c ∧ IsIntsX (fun q => E.C ≤ q ∧ q < W.heap.size ∧ ¬ X q) W v part
theorem Taken.ints {E : EnvW} {X : Nat → Prop} {W : World} {v : Value} {part : List Int} (h : Taken E X W v part) : IsInts W.heap.size W v part := by
 rcases h with ⟨rfl, rfl⟩ | ⟨b, o, c, rfl, h⟩
 ·exact ⟨0, 0, 0, ⟨none, rfl, Nat.le_refl _, by omega, .inr rfl⟩, by simp, by simp, fun j hj => by simp at hj⟩
 ·exact h.ints
theorem Taken.form {E : EnvW} {X : Nat → Prop} {W : World} {v : Value} {part : List Int} (h : Taken E X W v part) : v = .slice none 0 0 ∧ part = [] ∨ ∃ b o c, v = .slice (some ⟨b, o, none⟩) part.length c := by
 rcases h with h | ⟨b, o, c, h, _⟩
 ·exact .inl h
 ·exact .inr ⟨b, o, c, h⟩
theorem Taken.slice {E : EnvW} {X : Nat → Prop} {W : World} {v : Value} {part : List Int} (h : Taken E X W v part) : ∃ a c, v = .slice a part.length c := by
 rcases h with ⟨rfl, rfl⟩ | ⟨b, o, c, h, _⟩
 ·exact ⟨none, 0, rfl⟩
 ·exact ⟨_, _, h⟩
theorem Taken.turned {E : EnvW} (hE : E.Ok) {X Y : Nat → Prop} {W W' : World} {v : Value} {part : List Int} (h : Taken E X W v part) (ht : Turned Y W W') (hY : ∀ q, Y q → q < E.C ∨ X q ∨ W.heap.size ≤ q) : Taken E X W' v part := by
 rcases h with h | ⟨b, o, c, h, h2⟩
 ·exact .inl h
 ·refine .inr ⟨b, o, c, h, (h2.turned ht (fun q hq hy => ?_)).mono (fun q hq => ⟨hq.1, Nat.lt_of_lt_of_le hq.2.1 ht.size, hq.2.2⟩)⟩
  rcases hY q hy with h | h | h
  ·omega
  ·exact hq.2.2 h
  ·omega
/-- decide's contract, with fuel m, at one state -/
def DecideAt (E : EnvW) (K : Client E) (m : Nat) (w : List (List Int)) (part : List Int) : Prop := ∀ (W : World) (v : Value) (t : K.T), WalkS E w part W → Taken E (K.X t) W v part → K.At t W → (∀ q, K.X t q → E.Free q ∧ q < W.heap.size) →
 Calls Try.prog 63 #[.int .i64 (w.length : Int), v, .pointer (some ⟨E.cx, 0, none⟩), .pointer (some ⟨E.cp, 0, none⟩), .pointer (some ⟨E.co, 0, none⟩), .pointer (some ⟨E.cm, 0, none⟩), .pointer (some ⟨E.cd, 0, none⟩)] W fun e W' =>
  e = .returned (.bool (K.res m t (settleS E.f w part).1 (settleS E.f w part).2)) ∧ WalkS E w part W' ∧ Turned (fun q => q = E.bm ∨ K.X t q) W W' ∧ K.Dn m t (settleS E.f w part).1 (settleS E.f w part).2 W'
/-- the blocks of one call of decide -/
structure EachF (E : EnvW) (w : List (List Int)) (part : List Int) (v : Value) (cy ct ci cf cl : Nat) (W : World) : Prop where
 cy : ∃ a c pv, CellsN W cy #[.slice a (lotAt E.f.lots w.length).ins.length c, .bool false, pv] ∧ IsInts E.B W (.slice a (lotAt E.f.lots w.length).ins.length c) (lotAt E.f.lots w.length).ins
 ct : Cell1 W ct v
 ci : Cell1 W ci (.int .i64 (part.length : Int))
 cf : Cell1 W cf (.int .i64 (beforeI E.f w.length))
 cl : Cell1 W cl (.int .i64 (w.length : Int))
theorem EachF.turned {E : EnvW} {w : List (List Int)} {part : List Int} {v : Value} {cy ct ci cf cl : Nat} {W W' : World} (h : EachF E w part v cy ct ci cf cl W) {X : Nat → Prop} (ht : Turned X W W') (hB : E.B ≤ W.heap.size) (hX : ∀ q, X q → E.B ≤ q ∧ q ≠ cy ∧ q ≠ ct ∧ q ≠ ci ∧ q ≠ cf ∧ q ≠ cl) : EachF E w part v cy ct ci cf cl W' := by
 obtain ⟨a, c, pv, h1, h2⟩ := h.cy
 refine ⟨⟨a, c, pv, h1.turned ht (fun e => (hX _ e).2.1 rfl), h2.below (ht.below hB (fun q hq e => by have := (hX q e).1; omega)) (Nat.le_refl _)⟩, h.ct.turned ht (fun e => (hX _ e).2.2.1 rfl), h.ci.turned ht (fun e => (hX _ e).2.2.2.1 rfl), h.cf.turned ht (fun e => (hX _ e).2.2.2.2.1 rfl), h.cl.turned ht (fun e => (hX _ e).2.2.2.2.2 rfl)⟩
/-- one of two, by a test -/
def SZ (b : Bool) (S Z : World → Prop) (W : World) : Prop := (b = true → S W) ∧ (b = false → Z W)
/-- each's contract: s: its frame's blocks lie below; the client's ready is rf, with two captured values -/
def EachC (E : EnvW) (K : Client E) (m : Nat) (w : List (List Int)) (part : List Int) (s cy ct ci cf cl : Nat) (t : K.T) : Prop := ∀ (W1 : World) (rf : Nat) (r1 r2 : Value) (S R : Nat → World → Prop) (tk : Nat → K.T) (Z : World → Prop), (rf = 43 ∨ rf = 46) →
 WalkS E w part W1 → s ≤ W1.heap.size → (∃ W0, W0.heap.size = s ∧ Turned (K.X t) W0 W1 ∧ ∃ v, Taken E (K.X t) W0 v part ∧ EachF E w part v cy ct ci cf cl W0) → S 0 W1 → (∀ i W W', S i W → Turned (fun q => q = E.bm) W W' → S i W') → (∀ i W W', R i W → Turned (fun q => q = E.bm) W W' → R i W') → (∀ W W', Z W → Turned (fun q => q = E.bm) W W' → Z W') →
 (∀ i, i < freeK part (lotAt E.f.lots w.length).ins.length → ∀ W2, S i W2 → WalkS E w part W2 → s ≤ W2.heap.size → Calls Try.prog rf #[.int .i64 (i : Int), r1, r2] W2 fun e W3 => e = .returned (.bool true) ∧ R i W3 ∧ Turned K.X0 W2 W3) →
 (∀ i W, R i W → K.At (tk i) W) → (∀ i q, K.X (tk i) q → K.X0 q ∨ s ≤ q ∧ q < W1.heap.size) → (∀ j i W W', i < (lotAt E.f.lots w.length).ins.length → hasB part (i : Int) = false → freeK part i = j → R j W → Turned (fun q => q = E.bm ∨ K.X (tk j) q) W W' → K.Dn m (tk j) (settleS E.f w (part ++ [(i : Int)])).1 (settleS E.f w (part ++ [(i : Int)])).2 W' → SZ (K.res m (tk j) (settleS E.f w (part ++ [(i : Int)])).1 (settleS E.f w (part ++ [(i : Int)])).2) (S (j + 1)) Z W') →
 Calls Try.prog 64 #[.func (.func rf) #[] #[r1, r2], .pointer (some ⟨cy, 0, none⟩), .pointer (some ⟨ct, 0, none⟩), .pointer (some ⟨E.cm, 0, none⟩), .pointer (some ⟨ci, 0, none⟩), .pointer (some ⟨cf, 0, none⟩), .pointer (some ⟨E.cd, 0, none⟩), .pointer (some ⟨cl, 0, none⟩)] W1 fun e W' =>
  e = .returned (.bool (eachB (fun j i => K.res m (tk j) (settleS E.f w (part ++ [(i : Int)])).1 (settleS E.f w (part ++ [(i : Int)])).2) part (lotAt E.f.lots w.length).ins.length)) ∧ WalkS E w part W' ∧ Turned (fun q => q = E.bm ∨ K.X0 q ∨ s ≤ q) W1 W' ∧
   SZ (eachB (fun j i => K.res m (tk j) (settleS E.f w (part ++ [(i : Int)])).1 (settleS E.f w (part ++ [(i : Int)])).2) part (lotAt E.f.lots w.length).ins.length) (S (freeK part (lotAt E.f.lots w.length).ins.length)) Z W'
theorem each_no {g : Nat → Nat → Bool} {part : List Int} {i : Nat} (h : eachB g part i = false) : ∀ {m : Nat}, i ≤ m → eachB g part m = false := by
 intro m hm
 induction hm with
 | refl => exact h
 | step _ ih => simp only [eachB, ih, Bool.false_and]
theorem free_lt {part : List Int} {p N : Nat} (hp : p < N) (h : hasB part (p : Int) = false) : freeK part p < freeK part N := by
 have h1 : freeK part (p + 1) = freeK part p + 1 := by simp [freeK, h]
 have h2 : ∀ {m}, p + 1 ≤ m → freeK part (p + 1) ≤ freeK part m := by
  intro m hm
  induction hm with
  | refl => exact Nat.le_refl _
  | @step m _ ih =>
   have e : freeK part (m + 1) = if hasB part (m : Int) then freeK part m else freeK part m + 1 := rfl
   by_cases hh : hasB part (m : Int) = true
   ·rw [e, if_pos hh]; exact ih
   ·rw [e, if_neg hh]; omega
 have := h2 (show p + 1 ≤ N by omega)
 omega
/-- a list cloned, a number behind it, then a call -/
structure ClA (W2 : World) (part : List Int) (i : Int) (fc fb fa fd : Bool) (xc xb xa : Value) (Post : World → Prop) (w : World) : Prop where
 bel : fd = false → Below W2.heap.size W2 w
 c : fc = true → fa = false → fd = false → ∃ B, W2.heap.size ≤ B ∧ B ≤ w.heap.size ∧ OwnInts B w xc part
 b : fb = true → fa = false → fd = false → ∃ g, xb = .slice (some ⟨g, 0, none⟩) 1 1 ∧ CellsN w g #[.int .i64 i]
 a : fa = true → fd = false → ∃ B, W2.heap.size ≤ B ∧ OwnInts B w xa (part ++ [i])
 post : fd = true → Post w
theorem ClA.start {W2 : World} {part : List Int} {i : Int} {xc xb xa : Value} {Post : World → Prop} (n : Nat) : ClA W2 part i false false false false xc xb xa Post (W2.drewN n) where
 bel := fun _ => below_drewN (Below.refl _ _) n
 c := fun e => by cases e
 b := fun e => by cases e
 a := fun e => by cases e
 post := fun e => by cases e
section
variable {W2 : World} {part : List Int} {i : Int} {fc fb fa fd : Bool} {xc xb xa : Value} {Post : World → Prop} {w : World} (h : ClA W2 part i fc fb fa fd xc xb xa Post w)
include h
theorem ClA.sc (hfa : fa = false) (hfd : fd = false) {w' : World} {v : Value} (ho : OwnInts w.heap.size w' v part) (hb : Below w.heap.size w w') : ClA W2 part i true fb fa fd v xb xa Post w' := by
 subst hfa hfd
 have h1 := h.bel rfl
 exact {
  bel := (fun _ => h1.trans (hb.mono h1.size)), c := (fun _ _ _ => ⟨_, h1.size, hb.size, ho⟩), b := (fun e e1 e2 => by obtain ⟨g, q1, q2⟩ := h.b e e1 e2; exact ⟨g, q1, q2.turned (Turned.of_below (X := fun _ => False) hb) (fun e => e)⟩), a := (fun e => by cases e), post := (fun e => by cases e) }
theorem ClA.sb (hfa : fa = false) (hfd : fd = false) {x : Value} (he : x = .slice (some ⟨w.heap.size, 0, none⟩) 1 1) : ClA W2 part i fc true fa fd xc x xa Post (w.alloc (.cells #[.int .i64 i] 3)) := by
 subst hfa hfd
 have h1 := h.bel rfl
 exact {
  bel := (fun _ => h1.alloc h1.size _), c := (fun e e1 e2 => by obtain ⟨B, q1, q2, q3⟩ := h.c e e1 e2; exact ⟨B, q1, by simp; omega, q3.alloc _⟩), b := (fun _ _ _ => ⟨_, he, CellsN.new w _ _⟩), a := (fun e => by cases e), post := (fun e => by cases e) }
theorem ClA.sa (hfc : fc = true) (hfa : fa = false) (hfd : fd = false) {B : Nat} (hB : W2.heap.size ≤ B) (hB2 : ∀ k, xc.ownBlock = some k → W2.heap.size ≤ k) {w' : World} {v : Value} (ho : OwnInts B w' v (part ++ [i])) (hg : w.grownBy w' xc.ownBlock) : ClA W2 part i fc fb true fd xc xb v Post w' := by
 subst hfa hfd
 have h1 := h.bel rfl
 exact {
  bel := (fun _ => h1.grown hg h1.size hB2), c := (fun _ e => by cases e), b := (fun _ e => by cases e), a := (fun _ _ => ⟨B, hB, ho⟩), post := (fun e => by cases e) }
omit h in
theorem ClA.sd (hfd : fd = false) {w' : World} (hp : Post w') : ClA W2 part i fc fb fa true xc xb xa Post w' where
 bel := fun e => by cases e
 c := fun _ _ e => by cases e
 b := fun _ _ e => by cases e
 a := fun _ e => by cases e
 post := fun _ => hp
end
end Go.Proofs.Yteiaeaciaglmgaa
