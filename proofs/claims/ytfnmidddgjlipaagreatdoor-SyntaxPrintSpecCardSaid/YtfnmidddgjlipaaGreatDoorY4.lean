/-
  Layer 17: the walks of the parser's token, name, number (printed by tools/geny4.py).
-/
import Derived.Test.YtfnmidddgjlipaaGreatDoorY3
import Derived.Test.YtfnmidddgjlipaaGreatDoorRegV
import Derived.Test.YtfnmidddgjlipaaGreatDoorShl3
set_option linter.unusedVariables false
set_option linter.unusedSimpArgs false
namespace Go.Proofs.YtfnmidddgjlipaaGreatDoor
open Go.RowKit

theorem cell_spotY {w : World} {a : Addr} {v : Value} (h : w.cell? a = some v) : a.spot = none ∧ a.block < w.heap.size := by
  unfold World.cell? at h
  split at h
  · rename_i c t x hc
    refine ⟨?_, (Array.getElem?_eq_some_iff.1 hc).1⟩
    cases hs : a.spot with
    | none => rfl
    | some n => simp [hs] at h
  · cases h
theorem contains_words (s : Str) : Go.Lib.containsS ((wordsL.map (fun x => (⟨x.toArray⟩ : ByteArray))).take 13) ⟨s.toArray⟩ = resB s := by
  unfold resB
  rw [Bool.eq_iff_iff]
  unfold Go.Lib.containsS
  rw [decide_eq_true_eq, Go.Lib.idxOfS_nonneg_iff, List.take_of_length_le (by decide), List.mem_map, List.contains_iff_mem]
  constructor
  · rintro ⟨a, ha, e⟩
    have : a = s := by
      injection e with e
      simpa using e
    exact this ▸ ha
  · intro h; exact ⟨s, h, rfl⟩
theorem words_cell {w : World} {b : Nat} (h : CellsN w b (wordsL.map strV).toArray) (j : Nat) (hj : j < (wordsL.map (fun x => (⟨x.toArray⟩ : ByteArray))).length) : w.cell? ⟨b, 0 + j, none⟩ = some (.string ((wordsL.map (fun x => (⟨x.toArray⟩ : ByteArray))).getD j ByteArray.empty)) := by
  rw [Nat.zero_add, h.cell j]
  have : j < 13 := hj
  match j, this with
  | 0, _ => rfl
  | 1, _ => rfl
  | 2, _ => rfl
  | 3, _ => rfl
  | 4, _ => rfl
  | 5, _ => rfl
  | 6, _ => rfl
  | 7, _ => rfl
  | 8, _ => rfl
  | 9, _ => rfl
  | 10, _ => rfl
  | 11, _ => rfl
  | 12, _ => rfl
  | n + 13, h => omega

set_option maxHeartbeats 2000000 in
set_option maxRecDepth 100000 in
theorem nameC_yes (t : Tok) (w : World) (ht : okT t) (hk : t.kind = 1) :
    Calls Tryz.prog 84 #[tokV t] w fun e w' => e = .returned (.bool (okName t)) ∧ Below w.heap.size w w' := by
  obtain ⟨tk, tx, tn, tp⟩ := t
  simp only at hk
  have HT := Lib.hid ht
  obtain ⟨b0, hb0⟩ : ∃ b, w.heap.size = b := ⟨_, rfl⟩
  obtain ⟨W0, hW0⟩ : ∃ W, w.alloc (.cells #[.int .i64 tk, strV tx, .int .i64 tn, .int .i64 tp] 72) = W := ⟨_, rfl⟩
  have HB0 : Hid (Below w.heap.size w W0) := Lib.hid (by rw [← hW0]; exact box_below' w _)
  have HX0 : Hid (CellsN W0 b0 #[.int .i64 tk, strV tx, .int .i64 tn, .int .i64 tp]) := Lib.hid (by rw [← hW0, ← hb0]; exact CellsN.new _ _ _)
  have HW0 := Lib.hid hW0
  clear ht hW0
  subst hk
  obtain ⟨R, hR⟩ : ∃ R, resB tx = R := ⟨_, rfl⟩
  have HR := Lib.hid hR
  clear hR
  go_enter Tryz.func84, Tryz.ntmps84
  go_upto_region 1 with fail
  rw [HW0.out]
  try rw [hb0]
  clear hb0
  obtain ⟨V, hV⟩ : ∃ V : List (Option Value), V = [some (.pointer (some ⟨b0, 0, none⟩)), some (.int .i64 1), some (.bool true), some (.bool true), none, some (.pointer (some ⟨b0, 1, none⟩)), some (strV tx), some (.bool R), some (.bool (!R)), some (.bool (!R)), some (.bool (!R))] := ⟨_, rfl⟩
  have HVV := Lib.hid hV
  clear hV
  refine wp_region_V [some 3, some 4, some 5, some 6, some 7, some 8, some 9, some 10, some 11, some 12, some 2] (fun L w' xs => ValsAt V L xs ∧ (Below W0.heap.size W0 w' ∧ (L 4 = true → ∃ g, xs 4 = .slice (some ⟨g, 0, none⟩) 13 13 ∧ CellsN w' g (wordsL.map strV).toArray))) (by kernel_rfl) (by kernel_rfl) (by rfl) (by rfl) (by rfl) ?_ ?_ ?_
  focus
    exact fun xs => ⟨ValsAt.none _ _, (Below.refl _ _).drew, (fun h => by cases h)⟩
  focus
    refine ⟨?_, ?_, ?_, ?_, ?_, ?_, ?_, ?_, ?_, ?_, ?_, trivial⟩
    all_goals
      intro L a' w' xs hi hd hf hJ K hK
      obtain ⟨hv, hb, h4⟩ := hJ
      have HF := Lib.hid hf
      have HVA := Lib.hid hv
      have HLI := Lib.hid hi
      clear hf hv hi
    focus
      clear hd
      obtain ⟨ρ, hρ⟩ : ∃ ρ, a'.eval = ρ := ⟨_, rfl⟩
      have hcst : ∀ v, ρ (.const v) = v := fun v => (congrFun hρ (.const v)).symm
      have l1 : ρ (.tmp 1) = .pointer (some ⟨b0, 0, none⟩) := (congrFun hρ (.tmp 1)).symm.trans (HF.out.lo 1 rfl)
      rw [if_pos (by simp [Region.wanted])]
      unfold Oper.wp
      rw [hρ]
      clear hρ
      have H4 := Lib.hid h4
      clear h4
      go_simp
      exact hK.out _ _ ⟨HVA.out.set (i := 0) (by rw [HVV.out]; rfl), hb, (by simp only [upd_ne (L := L) (show (4 : Nat) ≠ 0 by decide), updV_ne (xs := xs) (show (4 : Nat) ≠ 0 by decide)]; exact H4.out)⟩
    focus
      obtain ⟨d0, _⟩ := hd
      obtain ⟨ρ, hρ⟩ : ∃ ρ, a'.eval = ρ := ⟨_, rfl⟩
      have hcst : ∀ v, ρ (.const v) = v := fun v => (congrFun hρ (.const v)).symm
      have v0 : ρ (.tmp 3) = .pointer (some ⟨b0, 0, none⟩) := (congrFun hρ (.tmp 3)).symm.trans ((HF.out.ev 0 rfl d0).trans (HVA.out 0 _ (by rw [HVV.out]; rfl) d0))
      rw [if_pos (by simp [Region.wanted])]
      unfold Oper.wp
      rw [hρ]
      clear hρ
      have H4 := Lib.hid h4
      clear h4
      have c1 := (HX0.out.ext hb).cell 0
      simp at c1
      go_simp
      exact hK.out _ _ ⟨HVA.out.set (i := 1) (by rw [HVV.out]; rfl), hb, (by simp only [upd_ne (L := L) (show (4 : Nat) ≠ 1 by decide), updV_ne (xs := xs) (show (4 : Nat) ≠ 1 by decide)]; exact H4.out)⟩
    focus
      obtain ⟨d1, _⟩ := hd
      obtain ⟨ρ, hρ⟩ : ∃ ρ, a'.eval = ρ := ⟨_, rfl⟩
      have hcst : ∀ v, ρ (.const v) = v := fun v => (congrFun hρ (.const v)).symm
      have v1 : ρ (.tmp 4) = .int .i64 1 := (congrFun hρ (.tmp 4)).symm.trans ((HF.out.ev 1 rfl d1).trans (HVA.out 1 _ (by rw [HVV.out]; rfl) d1))
      rw [if_pos (by simp [Region.wanted])]
      unfold Oper.wp
      rw [hρ]
      clear hρ
      have H4 := Lib.hid h4
      clear h4
      go_simp
      exact hK.out _ _ ⟨HVA.out.set (i := 2) (by rw [HVV.out]; rfl), hb, (by simp only [upd_ne (L := L) (show (4 : Nat) ≠ 2 by decide), updV_ne (xs := xs) (show (4 : Nat) ≠ 2 by decide)]; exact H4.out)⟩
    focus
      obtain ⟨d2, _⟩ := hd
      obtain ⟨ρ, hρ⟩ : ∃ ρ, a'.eval = ρ := ⟨_, rfl⟩
      have hcst : ∀ v, ρ (.const v) = v := fun v => (congrFun hρ (.const v)).symm
      have v2 : ρ (.tmp 5) = .bool true := (congrFun hρ (.tmp 5)).symm.trans ((HF.out.ev 2 rfl d2).trans (HVA.out 2 _ (by rw [HVV.out]; rfl) d2))
      rw [if_pos (by simp [Region.wanted])]
      unfold Oper.wp
      rw [hρ]
      clear hρ
      have H4 := Lib.hid h4
      clear h4
      go_simp
      exact hK.out _ _ ⟨HVA.out.set (i := 3) (by rw [HVV.out]; rfl), hb, (by simp only [upd_ne (L := L) (show (4 : Nat) ≠ 3 by decide), updV_ne (xs := xs) (show (4 : Nat) ≠ 3 by decide)]; exact H4.out)⟩
    focus
      obtain ⟨d3, _, _⟩ := hd
      obtain ⟨ρ, hρ⟩ : ∃ ρ, a'.eval = ρ := ⟨_, rfl⟩
      have hcst : ∀ v, ρ (.const v) = v := fun v => (congrFun hρ (.const v)).symm
      have hfun : ∀ k, ρ (.func k) = .func (.func k) #[] #[] := fun k => (congrFun hρ (.func k)).symm
      rw [if_pos (wanted_yes (d := 6) rfl rfl ((HF.out.ev 3 rfl d3).trans (HVA.out 3 _ (by rw [HVV.out]; rfl) d3)))]
      unfold Oper.wp
      rw [hρ]
      clear hρ
      clear h4
      go_simp
      go_at_call 86
      refine (words_any w').mono ?_
      rintro e w5 ⟨rfl, hw5⟩
      have HB5 : Hid (Below w'.heap.size w' w5) := Lib.hid (by rw [hw5]; exact box_below' _ _)
      have HC5 : Hid (CellsN w5 w'.heap.size (wordsL.map strV).toArray) := Lib.hid (by rw [hw5]; exact CellsN.new _ _ _)
      clear hw5
      exact hK.out _ _ ⟨HVA.out.free (i := 4) (by rw [HVV.out]; rfl) _, hb.trans (HB5.out.mono hb.size), fun _ => ⟨_, updV_self _ _ _, HC5.out⟩⟩
    focus
      obtain ⟨d3, _⟩ := hd
      obtain ⟨ρ, hρ⟩ : ∃ ρ, a'.eval = ρ := ⟨_, rfl⟩
      have hcst : ∀ v, ρ (.const v) = v := fun v => (congrFun hρ (.const v)).symm
      have l1 : ρ (.tmp 1) = .pointer (some ⟨b0, 0, none⟩) := (congrFun hρ (.tmp 1)).symm.trans (HF.out.lo 1 rfl)
      rw [if_pos (wanted_yes (d := 6) rfl rfl ((HF.out.ev 3 rfl d3).trans (HVA.out 3 _ (by rw [HVV.out]; rfl) d3)))]
      unfold Oper.wp
      rw [hρ]
      clear hρ
      have H4 := Lib.hid h4
      clear h4
      go_simp
      exact hK.out _ _ ⟨HVA.out.set (i := 5) (by rw [HVV.out]; rfl), hb, (by simp only [upd_ne (L := L) (show (4 : Nat) ≠ 5 by decide), updV_ne (xs := xs) (show (4 : Nat) ≠ 5 by decide)]; exact H4.out)⟩
    focus
      obtain ⟨d5, d3, _⟩ := hd
      obtain ⟨ρ, hρ⟩ : ∃ ρ, a'.eval = ρ := ⟨_, rfl⟩
      have hcst : ∀ v, ρ (.const v) = v := fun v => (congrFun hρ (.const v)).symm
      have v5 : ρ (.tmp 8) = .pointer (some ⟨b0, 1, none⟩) := (congrFun hρ (.tmp 8)).symm.trans ((HF.out.ev 5 rfl d5).trans (HVA.out 5 _ (by rw [HVV.out]; rfl) d5))
      rw [if_pos (wanted_yes (d := 6) rfl rfl ((HF.out.ev 3 rfl d3).trans (HVA.out 3 _ (by rw [HVV.out]; rfl) d3)))]
      unfold Oper.wp
      rw [hρ]
      clear hρ
      have H4 := Lib.hid h4
      clear h4
      have c6 := (HX0.out.ext hb).cell 1
      simp at c6
      go_simp
      exact hK.out _ _ ⟨HVA.out.set (i := 6) (by rw [HVV.out]; rfl), hb, (by simp only [upd_ne (L := L) (show (4 : Nat) ≠ 6 by decide), updV_ne (xs := xs) (show (4 : Nat) ≠ 6 by decide)]; exact H4.out)⟩
    focus
      obtain ⟨d4, d6, _, d3, _⟩ := hd
      obtain ⟨ρ, hρ⟩ : ∃ ρ, a'.eval = ρ := ⟨_, rfl⟩
      have hcst : ∀ v, ρ (.const v) = v := fun v => (congrFun hρ (.const v)).symm
      have hfun : ∀ k, ρ (.func k) = .func (.func k) #[] #[] := fun k => (congrFun hρ (.func k)).symm
      have v4 : ρ (.tmp 7) = xs 4 := (congrFun hρ (.tmp 7)).symm.trans (HF.out.ev 4 rfl d4)
      have v6 : ρ (.tmp 9) = strV tx := (congrFun hρ (.tmp 9)).symm.trans ((HF.out.ev 6 rfl d6).trans (HVA.out 6 _ (by rw [HVV.out]; rfl) d6))
      rw [if_pos (wanted_yes (d := 6) rfl rfl ((HF.out.ev 3 rfl d3).trans (HVA.out 3 _ (by rw [HVV.out]; rfl) d3)))]
      unfold Oper.wp
      rw [hρ]
      clear hρ
      obtain ⟨g, e4, hg⟩ := h4 d4
      rw [e4] at v4
      have HG := Lib.hid hg
      have H4 := Lib.hid h4
      clear h4 e4 hg
      have HCW := Lib.hid (Tryz.slices_Contains_string g 0 13 13 (wordsL.map (fun x => (⟨x.toArray⟩ : ByteArray))) ⟨tx.toArray⟩ w' (by decide) (by decide) (words_cell HG.out))
      rw [contains_words, HR.out] at HCW
      go_simp
      go_at_call 85
      refine HCW.out.mono ?_
      rintro e w5 ⟨rfl, hw5⟩
      rw [hw5]
      exact hK.out _ _ ⟨HVA.out.set (i := 7) (by rw [HVV.out]; rfl), hb, (by simp only [upd_ne (L := L) (show (4 : Nat) ≠ 7 by decide), updV_ne (xs := xs) (show (4 : Nat) ≠ 7 by decide)]; exact H4.out)⟩
    focus
      obtain ⟨d7, d3, _⟩ := hd
      obtain ⟨ρ, hρ⟩ : ∃ ρ, a'.eval = ρ := ⟨_, rfl⟩
      have hcst : ∀ v, ρ (.const v) = v := fun v => (congrFun hρ (.const v)).symm
      have v7 : ρ (.tmp 10) = .bool R := (congrFun hρ (.tmp 10)).symm.trans ((HF.out.ev 7 rfl d7).trans (HVA.out 7 _ (by rw [HVV.out]; rfl) d7))
      rw [if_pos (wanted_yes (d := 6) rfl rfl ((HF.out.ev 3 rfl d3).trans (HVA.out 3 _ (by rw [HVV.out]; rfl) d3)))]
      unfold Oper.wp
      rw [hρ]
      clear hρ
      have H4 := Lib.hid h4
      clear h4
      go_simp
      exact hK.out _ _ ⟨HVA.out.set (i := 8) (by rw [HVV.out]; rfl), hb, (by simp only [upd_ne (L := L) (show (4 : Nat) ≠ 8 by decide), updV_ne (xs := xs) (show (4 : Nat) ≠ 8 by decide)]; exact H4.out)⟩
    focus
      obtain ⟨d3, d8, _⟩ := hd
      obtain ⟨ρ, hρ⟩ : ∃ ρ, a'.eval = ρ := ⟨_, rfl⟩
      have hcst : ∀ v, ρ (.const v) = v := fun v => (congrFun hρ (.const v)).symm
      have v3 : ρ (.tmp 6) = .bool true := (congrFun hρ (.tmp 6)).symm.trans ((HF.out.ev 3 rfl d3).trans (HVA.out 3 _ (by rw [HVV.out]; rfl) d3))
      have v8 : ρ (.tmp 11) = .bool (!R) := (congrFun hρ (.tmp 11)).symm.trans ((HF.out.ev 8 rfl d8).trans (HVA.out 8 _ (by rw [HVV.out]; rfl) d8))
      rw [if_pos (by simp [Region.wanted])]
      unfold Oper.wp
      rw [hρ]
      clear hρ
      have H4 := Lib.hid h4
      clear h4
      go_simp
      exact hK.out _ _ ⟨HVA.out.set (i := 9) (by rw [HVV.out]; rfl), hb, (by simp only [upd_ne (L := L) (show (4 : Nat) ≠ 9 by decide), updV_ne (xs := xs) (show (4 : Nat) ≠ 9 by decide)]; exact H4.out)⟩
    focus
      obtain ⟨d9, d7, d0, d1, d2, d3, d4, d5, d6, _, d8, _, _⟩ := hd
      obtain ⟨ρ, hρ⟩ : ∃ ρ, a'.eval = ρ := ⟨_, rfl⟩
      have hcst : ∀ v, ρ (.const v) = v := fun v => (congrFun hρ (.const v)).symm
      have v9 : ρ (.tmp 12) = .bool (!R) := (congrFun hρ (.tmp 12)).symm.trans ((HF.out.ev 9 rfl d9).trans (HVA.out 9 _ (by rw [HVV.out]; rfl) d9))
      rw [if_pos (by simp [Region.wanted])]
      unfold Oper.wp
      rw [hρ]
      clear hρ
      have H4 := Lib.hid h4
      clear h4
      go_simp
      exact hK.out _ _ ⟨HVA.out.set (i := 10) (by rw [HVV.out]; rfl), hb, (by simp only [upd_ne (L := L) (show (4 : Nat) ≠ 10 by decide), updV_ne (xs := xs) (show (4 : Nat) ≠ 10 by decide)]; exact H4.out)⟩
  focus
    intro L w' xs hL hJ
    obtain ⟨hv, hb, h4⟩ := hJ
    have e0 : xs 0 = .pointer (some ⟨b0, 0, none⟩) := hv 0 _ (by rw [HVV.out]; rfl) (hL 0 (by decide))
    have e1 : xs 1 = .int .i64 1 := hv 1 _ (by rw [HVV.out]; rfl) (hL 1 (by decide))
    have e2 : xs 2 = .bool true := hv 2 _ (by rw [HVV.out]; rfl) (hL 2 (by decide))
    have e3 : xs 3 = .bool true := hv 3 _ (by rw [HVV.out]; rfl) (hL 3 (by decide))
    have e5 : xs 5 = .pointer (some ⟨b0, 1, none⟩) := hv 5 _ (by rw [HVV.out]; rfl) (hL 5 (by decide))
    have e6 : xs 6 = strV tx := hv 6 _ (by rw [HVV.out]; rfl) (hL 6 (by decide))
    have e7 : xs 7 = .bool R := hv 7 _ (by rw [HVV.out]; rfl) (hL 7 (by decide))
    have e8 : xs 8 = .bool (!R) := hv 8 _ (by rw [HVV.out]; rfl) (hL 8 (by decide))
    have e9 : xs 9 = .bool (!R) := hv 9 _ (by rw [HVV.out]; rfl) (hL 9 (by decide))
    have e10 : xs 10 = .bool (!R) := hv 10 _ (by rw [HVV.out]; rfl) (hL 10 (by decide))
    simp only [putGo, Act.put, List.setIfInBounds_toArray, List.set_cons_zero, List.set_cons_succ, e0, e1, e2, e3, e5, e6, e7, e8, e9, e10]
    clear hv e0 e1 e2 e3 e5 e6 e7 e8 e9 e10
    have HBF := Lib.hid (HB0.out.trans (hb.mono HB0.out.size))
    clear hb hL h4
    obtain ⟨wE, rfl⟩ : ∃ W, W = w' := ⟨_, rfl⟩
    go_wp2
    go_ret
    refine ⟨?_, HBF.out⟩
    congr 2
    unfold okName
    simp [HR.out]
set_option maxHeartbeats 2000000 in
set_option maxRecDepth 100000 in
theorem nameC_no (t : Tok) (w : World) (ht : okT t) (hk : ¬ t.kind = 1) :
    Calls Tryz.prog 84 #[tokV t] w fun e w' => e = .returned (.bool (okName t)) ∧ Below w.heap.size w w' := by
  obtain ⟨tk, tx, tn, tp⟩ := t
  simp only at hk
  have HT := Lib.hid ht
  obtain ⟨b0, hb0⟩ : ∃ b, w.heap.size = b := ⟨_, rfl⟩
  obtain ⟨W0, hW0⟩ : ∃ W, w.alloc (.cells #[.int .i64 tk, strV tx, .int .i64 tn, .int .i64 tp] 72) = W := ⟨_, rfl⟩
  have HB0 : Hid (Below w.heap.size w W0) := Lib.hid (by rw [← hW0]; exact box_below' w _)
  have HX0 : Hid (CellsN W0 b0 #[.int .i64 tk, strV tx, .int .i64 tn, .int .i64 tp]) := Lib.hid (by rw [← hW0, ← hb0]; exact CellsN.new _ _ _)
  have HW0 := Lib.hid hW0
  clear ht hW0
  have hkb : (tk == 1) = false := by simpa using hk
  have HKB := Lib.hid hkb
  go_enter Tryz.func84, Tryz.ntmps84
  go_upto_region 1 with fail
  rw [HW0.out]
  try rw [hb0]
  clear hb0
  obtain ⟨V, hV⟩ : ∃ V : List (Option Value), V = [some (.pointer (some ⟨b0, 0, none⟩)), some (.int .i64 tk), some (.bool false), some (.bool false), none, none, none, none, none, some (.bool false), some (.bool false)] := ⟨_, rfl⟩
  have HVV := Lib.hid hV
  clear hV
  refine wp_region_V [some 3, some 4, some 5, some 6, some 7, some 8, some 9, some 10, some 11, some 12, some 2] (fun L w' xs => ValsAt V L xs ∧ (Below W0.heap.size W0 w')) (by kernel_rfl) (by kernel_rfl) (by rfl) (by rfl) (by rfl) ?_ ?_ ?_
  focus
    exact fun xs => ⟨ValsAt.none _ _, (Below.refl _ _).drew⟩
  focus
    refine ⟨?_, ?_, ?_, ?_, ?_, ?_, ?_, ?_, ?_, ?_, ?_, trivial⟩
    all_goals
      intro L a' w' xs hi hd hf hJ K hK
      obtain ⟨hv, hb⟩ := hJ
      have HF := Lib.hid hf
      have HVA := Lib.hid hv
      have HLI := Lib.hid hi
      clear hf hv hi
    focus
      clear hd
      obtain ⟨ρ, hρ⟩ : ∃ ρ, a'.eval = ρ := ⟨_, rfl⟩
      have hcst : ∀ v, ρ (.const v) = v := fun v => (congrFun hρ (.const v)).symm
      have l1 : ρ (.tmp 1) = .pointer (some ⟨b0, 0, none⟩) := (congrFun hρ (.tmp 1)).symm.trans (HF.out.lo 1 rfl)
      rw [if_pos (by simp [Region.wanted])]
      unfold Oper.wp
      rw [hρ]
      clear hρ
      go_simp
      exact hK.out _ _ ⟨HVA.out.set (i := 0) (by rw [HVV.out]; rfl), hb⟩
    focus
      obtain ⟨d0, _⟩ := hd
      obtain ⟨ρ, hρ⟩ : ∃ ρ, a'.eval = ρ := ⟨_, rfl⟩
      have hcst : ∀ v, ρ (.const v) = v := fun v => (congrFun hρ (.const v)).symm
      have v0 : ρ (.tmp 3) = .pointer (some ⟨b0, 0, none⟩) := (congrFun hρ (.tmp 3)).symm.trans ((HF.out.ev 0 rfl d0).trans (HVA.out 0 _ (by rw [HVV.out]; rfl) d0))
      rw [if_pos (by simp [Region.wanted])]
      unfold Oper.wp
      rw [hρ]
      clear hρ
      have c1 := (HX0.out.ext hb).cell 0
      simp at c1
      go_simp
      exact hK.out _ _ ⟨HVA.out.set (i := 1) (by rw [HVV.out]; rfl), hb⟩
    focus
      obtain ⟨d1, _⟩ := hd
      obtain ⟨ρ, hρ⟩ : ∃ ρ, a'.eval = ρ := ⟨_, rfl⟩
      have hcst : ∀ v, ρ (.const v) = v := fun v => (congrFun hρ (.const v)).symm
      have v1 : ρ (.tmp 4) = .int .i64 tk := (congrFun hρ (.tmp 4)).symm.trans ((HF.out.ev 1 rfl d1).trans (HVA.out 1 _ (by rw [HVV.out]; rfl) d1))
      rw [if_pos (by simp [Region.wanted])]
      unfold Oper.wp
      rw [hρ]
      clear hρ
      have hkb := HKB.out
      go_simp
      exact hK.out _ _ ⟨HVA.out.set (i := 2) (by rw [HVV.out]; rfl), hb⟩
    focus
      obtain ⟨d2, _⟩ := hd
      obtain ⟨ρ, hρ⟩ : ∃ ρ, a'.eval = ρ := ⟨_, rfl⟩
      have hcst : ∀ v, ρ (.const v) = v := fun v => (congrFun hρ (.const v)).symm
      have v2 : ρ (.tmp 5) = .bool false := (congrFun hρ (.tmp 5)).symm.trans ((HF.out.ev 2 rfl d2).trans (HVA.out 2 _ (by rw [HVV.out]; rfl) d2))
      rw [if_pos (by simp [Region.wanted])]
      unfold Oper.wp
      rw [hρ]
      clear hρ
      go_simp
      exact hK.out _ _ ⟨HVA.out.set (i := 3) (by rw [HVV.out]; rfl), hb⟩
    focus
      obtain ⟨d3, _, _⟩ := hd
      obtain ⟨ρ, hρ⟩ : ∃ ρ, a'.eval = ρ := ⟨_, rfl⟩
      have hcst : ∀ v, ρ (.const v) = v := fun v => (congrFun hρ (.const v)).symm
      have hfun : ∀ k, ρ (.func k) = .func (.func k) #[] #[] := fun k => (congrFun hρ (.func k)).symm
      rw [if_neg (wanted_no (d := 6) (b := false) rfl rfl ((HF.out.ev 3 rfl d3).trans (HVA.out 3 _ (by rw [HVV.out]; rfl) d3)) (by decide))]
      clear hρ
      exact hK.out undef _ ⟨HVA.out.free (i := 4) (by rw [HVV.out]; rfl) _, hb⟩
    focus
      obtain ⟨d3, _⟩ := hd
      obtain ⟨ρ, hρ⟩ : ∃ ρ, a'.eval = ρ := ⟨_, rfl⟩
      have hcst : ∀ v, ρ (.const v) = v := fun v => (congrFun hρ (.const v)).symm
      have l1 : ρ (.tmp 1) = .pointer (some ⟨b0, 0, none⟩) := (congrFun hρ (.tmp 1)).symm.trans (HF.out.lo 1 rfl)
      rw [if_neg (wanted_no (d := 6) (b := false) rfl rfl ((HF.out.ev 3 rfl d3).trans (HVA.out 3 _ (by rw [HVV.out]; rfl) d3)) (by decide))]
      clear hρ
      exact hK.out undef _ ⟨HVA.out.free (i := 5) (by rw [HVV.out]; rfl) _, hb⟩
    focus
      obtain ⟨d5, d3, _⟩ := hd
      obtain ⟨ρ, hρ⟩ : ∃ ρ, a'.eval = ρ := ⟨_, rfl⟩
      have hcst : ∀ v, ρ (.const v) = v := fun v => (congrFun hρ (.const v)).symm
      have v5 : ρ (.tmp 8) = xs 5 := (congrFun hρ (.tmp 8)).symm.trans (HF.out.ev 5 rfl d5)
      rw [if_neg (wanted_no (d := 6) (b := false) rfl rfl ((HF.out.ev 3 rfl d3).trans (HVA.out 3 _ (by rw [HVV.out]; rfl) d3)) (by decide))]
      clear hρ
      exact hK.out undef _ ⟨HVA.out.free (i := 6) (by rw [HVV.out]; rfl) _, hb⟩
    focus
      obtain ⟨d4, d6, _, d3, _⟩ := hd
      obtain ⟨ρ, hρ⟩ : ∃ ρ, a'.eval = ρ := ⟨_, rfl⟩
      have hcst : ∀ v, ρ (.const v) = v := fun v => (congrFun hρ (.const v)).symm
      have hfun : ∀ k, ρ (.func k) = .func (.func k) #[] #[] := fun k => (congrFun hρ (.func k)).symm
      have v4 : ρ (.tmp 7) = xs 4 := (congrFun hρ (.tmp 7)).symm.trans (HF.out.ev 4 rfl d4)
      have v6 : ρ (.tmp 9) = xs 6 := (congrFun hρ (.tmp 9)).symm.trans (HF.out.ev 6 rfl d6)
      rw [if_neg (wanted_no (d := 6) (b := false) rfl rfl ((HF.out.ev 3 rfl d3).trans (HVA.out 3 _ (by rw [HVV.out]; rfl) d3)) (by decide))]
      clear hρ
      exact hK.out undef _ ⟨HVA.out.free (i := 7) (by rw [HVV.out]; rfl) _, hb⟩
    focus
      obtain ⟨d7, d3, _⟩ := hd
      obtain ⟨ρ, hρ⟩ : ∃ ρ, a'.eval = ρ := ⟨_, rfl⟩
      have hcst : ∀ v, ρ (.const v) = v := fun v => (congrFun hρ (.const v)).symm
      have v7 : ρ (.tmp 10) = xs 7 := (congrFun hρ (.tmp 10)).symm.trans (HF.out.ev 7 rfl d7)
      rw [if_neg (wanted_no (d := 6) (b := false) rfl rfl ((HF.out.ev 3 rfl d3).trans (HVA.out 3 _ (by rw [HVV.out]; rfl) d3)) (by decide))]
      clear hρ
      exact hK.out undef _ ⟨HVA.out.free (i := 8) (by rw [HVV.out]; rfl) _, hb⟩
    focus
      obtain ⟨d3, d8, _⟩ := hd
      obtain ⟨ρ, hρ⟩ : ∃ ρ, a'.eval = ρ := ⟨_, rfl⟩
      have hcst : ∀ v, ρ (.const v) = v := fun v => (congrFun hρ (.const v)).symm
      have v3 : ρ (.tmp 6) = .bool false := (congrFun hρ (.tmp 6)).symm.trans ((HF.out.ev 3 rfl d3).trans (HVA.out 3 _ (by rw [HVV.out]; rfl) d3))
      have v8 : ρ (.tmp 11) = xs 8 := (congrFun hρ (.tmp 11)).symm.trans (HF.out.ev 8 rfl d8)
      rw [if_pos (by simp [Region.wanted])]
      unfold Oper.wp
      rw [hρ]
      clear hρ
      go_simp
      exact hK.out _ _ ⟨HVA.out.set (i := 9) (by rw [HVV.out]; rfl), hb⟩
    focus
      obtain ⟨d9, d7, d0, d1, d2, d3, d4, d5, d6, _, d8, _, _⟩ := hd
      obtain ⟨ρ, hρ⟩ : ∃ ρ, a'.eval = ρ := ⟨_, rfl⟩
      have hcst : ∀ v, ρ (.const v) = v := fun v => (congrFun hρ (.const v)).symm
      have v9 : ρ (.tmp 12) = .bool false := (congrFun hρ (.tmp 12)).symm.trans ((HF.out.ev 9 rfl d9).trans (HVA.out 9 _ (by rw [HVV.out]; rfl) d9))
      rw [if_pos (by simp [Region.wanted])]
      unfold Oper.wp
      rw [hρ]
      clear hρ
      go_simp
      exact hK.out _ _ ⟨HVA.out.set (i := 10) (by rw [HVV.out]; rfl), hb⟩
  focus
    intro L w' xs hL hJ
    obtain ⟨hv, hb⟩ := hJ
    have e0 : xs 0 = .pointer (some ⟨b0, 0, none⟩) := hv 0 _ (by rw [HVV.out]; rfl) (hL 0 (by decide))
    have e1 : xs 1 = .int .i64 tk := hv 1 _ (by rw [HVV.out]; rfl) (hL 1 (by decide))
    have e2 : xs 2 = .bool false := hv 2 _ (by rw [HVV.out]; rfl) (hL 2 (by decide))
    have e3 : xs 3 = .bool false := hv 3 _ (by rw [HVV.out]; rfl) (hL 3 (by decide))
    have e9 : xs 9 = .bool false := hv 9 _ (by rw [HVV.out]; rfl) (hL 9 (by decide))
    have e10 : xs 10 = .bool false := hv 10 _ (by rw [HVV.out]; rfl) (hL 10 (by decide))
    simp only [putGo, Act.put, List.setIfInBounds_toArray, List.set_cons_zero, List.set_cons_succ, e0, e1, e2, e3, e9, e10]
    clear hv e0 e1 e2 e3 e9 e10
    have HBF := Lib.hid (HB0.out.trans (hb.mono HB0.out.size))
    clear hb hL
    obtain ⟨wE, rfl⟩ : ∃ W, W = w' := ⟨_, rfl⟩
    go_wp2
    go_ret
    refine ⟨?_, HBF.out⟩
    congr 2
    unfold okName
    simp [HKB.out]
theorem nameC_any (t : Tok) (w : World) (ht : okT t) :
    Calls Tryz.prog 84 #[tokV t] w fun e w' => e = .returned (.bool (okName t)) ∧ Below w.heap.size w w' := by
  by_cases hk : t.kind = 1
  · exact nameC_yes t w ht hk
  · exact nameC_no t w ht hk

set_option maxHeartbeats 1000000 in
set_option maxRecDepth 100000 in
theorem numC_any (t : Tok) (w : World) (ht : okT t) (q : Nat) (m : Int) (hm : w.cell? ⟨q, 0, none⟩ = some (.int .i64 m)) :
    Calls Tryz.prog 87 #[tokV t, .pointer (some ⟨q, 0, none⟩)] w fun e w' => e = .returned (.bool (okNum m t)) ∧ Below w.heap.size w w' := by
  obtain ⟨tk, tx, tn, tp⟩ := t
  have HT := Lib.hid ht
  obtain ⟨b0, hb0⟩ : ∃ b, w.heap.size = b := ⟨_, rfl⟩
  obtain ⟨W0, hW0⟩ : ∃ W, w.alloc (.cells #[.int .i64 tk, strV tx, .int .i64 tn, .int .i64 tp] 72) = W := ⟨_, rfl⟩
  have HB0 : Hid (Below w.heap.size w W0) := Lib.hid (by rw [← hW0]; exact box_below' w _)
  have HX0 : Hid (CellsN W0 b0 #[.int .i64 tk, strV tx, .int .i64 tn, .int .i64 tp]) := Lib.hid (by rw [← hW0, ← hb0]; exact CellsN.new _ _ _)
  have hq : q < w.heap.size := (cell_spotY hm).2
  have hm0 : W0.cell? ⟨q, 0, none⟩ = some (.int .i64 m) := (HB0.out.cell (p := ⟨q, 0, none⟩) hq).trans hm
  have HW0 := Lib.hid hW0
  have c0 := HX0.out.cell 0
  have c2 := HX0.out.cell 2
  simp at c0 c2
  clear ht hW0 hm
  by_cases hk : tk = 2
  · subst hk
    go_enter Tryz.func87, Tryz.ntmps87
    go_upto_region 1 with fail
    rw [HW0.out]
    try rw [hb0]
    clear hb0
    go_wp2
    go_ret
    exact ⟨by simp [okNum], HB0.out⟩
  · have hkb : (tk == 2) = false := by simpa using hk
    have HKB := Lib.hid hkb
    clear hk
    go_enter Tryz.func87, Tryz.ntmps87
    go_upto_region 1 with fail
    rw [HW0.out]
    try rw [hb0]
    clear hb0
    go_wp2
    go_ret
    exact ⟨by simp [okNum, HKB.out], HB0.out⟩
end Go.Proofs.YtfnmidddgjlipaaGreatDoor
