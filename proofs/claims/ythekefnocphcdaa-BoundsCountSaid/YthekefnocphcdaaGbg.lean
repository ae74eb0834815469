/- Layers Sn27 Cw1 C13 C14 Cw2 Cw3 C15 Cw4 Wi27 C16 Cw5: the walks and the plain laws under the last text, merged and cut to what it uses; nothing is assumed. -/
import Derived.Test.YthekefnocphcdaaGbf

set_option linter.unusedVariables false

set_option linter.unusedSimpArgs false

namespace Go.Proofs.Ythekefnocphcdaa

open Go.RowKit

def sxA : Flow := ⟨0, []⟩

def sxB : Flow := ⟨2, []⟩

def sxC : Flow := ⟨2, [⟨[0, 1], true, [1, 0]⟩]⟩

def sxD : Flow := ⟨2, [⟨[0, 1], false, []⟩]⟩

def sxE : Flow := ⟨3, [⟨[2, 0], false, []⟩]⟩

def sxF : Flow := ⟨9, []⟩

def sxG : Flow := ⟨-1, []⟩

theorem sxA_ans : allE sxA = 0 ∧ allR sxA = [[]] := by decide +kernel

theorem sxB_ans : allE sxB = 0 ∧ allR sxB = [[0, 1]] := by decide +kernel

theorem sxC_ans : allE sxC = 0 ∧ allR sxC = [[3, 2]] := by decide +kernel

theorem sxD_ans : allE sxD = 0 ∧ allR sxD = [[2, 3], [3, 2]] := by decide +kernel

theorem sxE_ans : allE sxE = 0 ∧ allR sxE = [[3, 1, 4], [4, 1, 3]] := by decide +kernel

theorem sxE_cnt : countR sxE = 2 := by decide +kernel

theorem sxE_pos : possB sxE [4, 1, 3] = true ∧ possB sxE [4, 1, 4] = false := by decide +kernel

theorem sxF_ans : allE sxF = 2 ∧ allR sxF = [] := by decide +kernel

theorem sxG_ans : allE sxG = 250 ∧ countR sxG = 0 := by decide +kernel

set_option maxHeartbeats 8000000 in
set_option maxRecDepth 100000 in
/-- sane -/
theorem sane27_any (w : World) : Calls Try.prog 13 #[] w fun e w' => e = .returned (.bool true) ∧ Below w.heap.size w w' := by
  have HB0 : Hid (Below w.heap.size w w) := Lib.hid (Below.refl _ _)
  go_enter Try.func13, Try.ntmps13
  have HT0 : Hid (Below w.heap.size w w) := Lib.hid (HB0.out)
  have HQ0 : Hid (Below w.heap.size w w) := Lib.hid ((Below.refl w.heap.size w))
  have HF0 : Hid (IsFlow (w.heap.size) w (.int .i64 0) (.slice none 0 0) sxA) := Lib.hid ⟨rfl, by simp [sxA, I64], noLots⟩
  go_wp2_with fail
  refine (all27_any (w.heap.size) _ _ _ sxA HF0.out (by simp)).mono ?_
  rintro e w1 ⟨v, rfl, ho, hb⟩
  rw [sxA_ans.1]
  rw [sxA_ans.2] at ho
  obtain ⟨a1, c1, rfl, _⟩ := ho.form
  simp only [List.length_cons, List.length_nil, Nat.zero_add, Nat.reduceAdd]
  have HO1 := Lib.hid ho.isMat
  clear ho
  have HB1 : Hid (Below w.heap.size w w1) := Lib.hid (HT0.out.trans (hb.mono HT0.out.size))
  have HS1 : Hid (Below w.heap.size w w1) := Lib.hid (HQ0.out.trans (hb.mono HQ0.out.size))
  clear hb
  have HT1 : Hid (Below w.heap.size w w1) := Lib.hid (HB1.out)
  have HQ1 : Hid (Below w1.heap.size w1 w1) := Lib.hid ((Below.refl w1.heap.size w1))
  have HF1 : Hid (IsFlow (w1.heap.size) w1 (.int .i64 2) (.slice none 0 0) sxB) := Lib.hid ⟨rfl, by simp [sxB, I64], noLots⟩
  go_wp2_with fail
  refine (all27_any (w1.heap.size) _ _ _ sxB HF1.out (by simp)).mono ?_
  rintro e w2 ⟨v, rfl, ho, hb⟩
  rw [sxB_ans.1]
  rw [sxB_ans.2] at ho
  obtain ⟨a2, c2, rfl, _⟩ := ho.form
  simp only [List.length_cons, List.length_nil, Nat.zero_add, Nat.reduceAdd]
  have HO2 := Lib.hid ho.isMat
  clear ho
  have HB2 : Hid (Below w.heap.size w w2) := Lib.hid (HT1.out.trans (hb.mono HT1.out.size))
  have HS2 : Hid (Below w1.heap.size w1 w2) := Lib.hid (HQ1.out.trans (hb.mono HQ1.out.size))
  clear hb
  have HT2 : Hid (Below w.heap.size w (((w2.alloc (Obj.cells #[.int .i64 0, .int .i64 1] 3)).alloc (Obj.cells #[.int .i64 1, .int .i64 0] 3)).alloc (Obj.cells #[.slice (some ⟨w2.heap.size, 0, none⟩) 2 2, .bool true, .slice (some ⟨w2.heap.size + 1, 0, none⟩) 2 2] 39))) := Lib.hid ((((HB2.out.alloc (by have := HB2.out.size; simp; try omega) _).alloc (by have := HB2.out.size; simp; try omega) _).alloc (by have := HB2.out.size; simp; try omega) _))
  have HQ2 : Hid (Below w2.heap.size w2 (((w2.alloc (Obj.cells #[.int .i64 0, .int .i64 1] 3)).alloc (Obj.cells #[.int .i64 1, .int .i64 0] 3)).alloc (Obj.cells #[.slice (some ⟨w2.heap.size, 0, none⟩) 2 2, .bool true, .slice (some ⟨w2.heap.size + 1, 0, none⟩) 2 2] 39))) := Lib.hid (((((Below.refl w2.heap.size w2).alloc (by simp; try omega) _).alloc (by simp; try omega) _).alloc (by simp; try omega) _))
  have HF2 : Hid (IsFlow (w2.heap.size + 1 + 1 + 1) (((w2.alloc (Obj.cells #[.int .i64 0, .int .i64 1] 3)).alloc (Obj.cells #[.int .i64 1, .int .i64 0] 3)).alloc (Obj.cells #[.slice (some ⟨w2.heap.size, 0, none⟩) 2 2, .bool true, .slice (some ⟨w2.heap.size + 1, 0, none⟩) 2 2] 39)) (.int .i64 2) (.slice (some ⟨w2.heap.size + 1 + 1, 0, none⟩) 1 1) sxC) := Lib.hid ⟨rfl, by simp [sxC, I64], oneLot (by have h := Box.new ((w2.alloc (.cells #[.int .i64 0, .int .i64 1] 3)).alloc (.cells #[.int .i64 1, .int .i64 0] 3)) #[.slice (some ⟨w2.heap.size, 0, none⟩) 2 2, .bool true, .slice (some ⟨w2.heap.size + 1, 0, none⟩) 2 2] 39; simpa using h) (by omega) (litInts rfl (by decide) (by omega) (by simp [I64]) (by omega) (((Box.new w2 #[.int .i64 0, .int .i64 1] 3).alloc _).alloc _)) (litInts (b := w2.heap.size + 1) rfl (by decide) (by omega) (by simp [I64]) (by omega) (by have h := (Box.new (w2.alloc (.cells #[.int .i64 0, .int .i64 1] 3)) #[.int .i64 1, .int .i64 0] 3).alloc (.cells #[.slice (some ⟨w2.heap.size, 0, none⟩) 2 2, .bool true, .slice (some ⟨w2.heap.size + 1, 0, none⟩) 2 2] 39); simpa using h))⟩
  go_wp2_with fail
  refine (all27_any (w2.heap.size + 1 + 1 + 1) _ _ _ sxC HF2.out (by simp)).mono ?_
  rintro e w3 ⟨v, rfl, ho, hb⟩
  rw [sxC_ans.1]
  rw [sxC_ans.2] at ho
  obtain ⟨a3, c3, rfl, _⟩ := ho.form
  simp only [List.length_cons, List.length_nil, Nat.zero_add, Nat.reduceAdd]
  have HO3 := Lib.hid ho.isMat
  clear ho
  have HB3 : Hid (Below w.heap.size w w3) := Lib.hid (HT2.out.trans (hb.mono (by have := HT2.out.size; simp only [World.size_alloc] at this ⊢; omega)))
  have HS3 : Hid (Below w2.heap.size w2 w3) := Lib.hid (HQ2.out.trans (hb.mono (by have := HQ2.out.size; simp only [World.size_alloc] at this ⊢; omega)))
  clear hb
  have HT3 : Hid (Below w.heap.size w ((w3.alloc (Obj.cells #[.int .i64 0, .int .i64 1] 3)).alloc (Obj.cells #[.slice (some ⟨w3.heap.size, 0, none⟩) 2 2, .bool false, .slice none 0 0] 39))) := Lib.hid (((HB3.out.alloc (by have := HB3.out.size; simp; try omega) _).alloc (by have := HB3.out.size; simp; try omega) _))
  have HQ3 : Hid (Below w3.heap.size w3 ((w3.alloc (Obj.cells #[.int .i64 0, .int .i64 1] 3)).alloc (Obj.cells #[.slice (some ⟨w3.heap.size, 0, none⟩) 2 2, .bool false, .slice none 0 0] 39))) := Lib.hid ((((Below.refl w3.heap.size w3).alloc (by simp; try omega) _).alloc (by simp; try omega) _))
  have HF3 : Hid (IsFlow (w3.heap.size + 1 + 1) ((w3.alloc (Obj.cells #[.int .i64 0, .int .i64 1] 3)).alloc (Obj.cells #[.slice (some ⟨w3.heap.size, 0, none⟩) 2 2, .bool false, .slice none 0 0] 39)) (.int .i64 2) (.slice (some ⟨w3.heap.size + 1, 0, none⟩) 1 1) sxD) := Lib.hid ⟨rfl, by simp [sxD, I64], oneLot (by have h := Box.new (w3.alloc (.cells #[.int .i64 0, .int .i64 1] 3)) #[.slice (some ⟨w3.heap.size, 0, none⟩) 2 2, .bool false, .slice none 0 0] 39; simpa using h) (by omega) (litInts rfl (by decide) (by omega) (by simp [I64]) (by omega) ((Box.new w3 #[.int .i64 0, .int .i64 1] 3).alloc _)) noInts⟩
  go_wp2_with fail
  refine (all27_any (w3.heap.size + 1 + 1) _ _ _ sxD HF3.out (by simp)).mono ?_
  rintro e w4 ⟨v, rfl, ho, hb⟩
  rw [sxD_ans.1]
  rw [sxD_ans.2] at ho
  obtain ⟨a4, c4, rfl, _⟩ := ho.form
  simp only [List.length_cons, List.length_nil, Nat.zero_add, Nat.reduceAdd]
  have HO4 := Lib.hid ho.isMat
  clear ho
  have HB4 : Hid (Below w.heap.size w w4) := Lib.hid (HT3.out.trans (hb.mono (by have := HT3.out.size; simp only [World.size_alloc] at this ⊢; omega)))
  have HS4 : Hid (Below w3.heap.size w3 w4) := Lib.hid (HQ3.out.trans (hb.mono (by have := HQ3.out.size; simp only [World.size_alloc] at this ⊢; omega)))
  clear hb
  have HT4 : Hid (Below w.heap.size w (((w4.alloc (Obj.cells #[.int .i64 2, .int .i64 0] 3)).alloc (Obj.cells #[.slice (some ⟨w4.heap.size, 0, none⟩) 2 2, .bool false, .slice none 0 0] 39)).alloc (Obj.cells #[.int .i64 3, .slice (some ⟨w4.heap.size + 1, 0, none⟩) 1 1] 24))) := Lib.hid ((((HB4.out.alloc (by have := HB4.out.size; simp; try omega) _).alloc (by have := HB4.out.size; simp; try omega) _).alloc (by have := HB4.out.size; simp; try omega) _))
  have HQ4 : Hid (Below w4.heap.size w4 (((w4.alloc (Obj.cells #[.int .i64 2, .int .i64 0] 3)).alloc (Obj.cells #[.slice (some ⟨w4.heap.size, 0, none⟩) 2 2, .bool false, .slice none 0 0] 39)).alloc (Obj.cells #[.int .i64 3, .slice (some ⟨w4.heap.size + 1, 0, none⟩) 1 1] 24))) := Lib.hid (((((Below.refl w4.heap.size w4).alloc (by simp; try omega) _).alloc (by simp; try omega) _).alloc (by simp; try omega) _))
  have HF4 : Hid (IsFlow (w4.heap.size + 1 + 1 + 1) (((w4.alloc (Obj.cells #[.int .i64 2, .int .i64 0] 3)).alloc (Obj.cells #[.slice (some ⟨w4.heap.size, 0, none⟩) 2 2, .bool false, .slice none 0 0] 39)).alloc (Obj.cells #[.int .i64 3, .slice (some ⟨w4.heap.size + 1, 0, none⟩) 1 1] 24)) (.int .i64 3) (.slice (some ⟨w4.heap.size + 1, 0, none⟩) 1 1) sxE) := Lib.hid ⟨rfl, by simp [sxE, I64], oneLot (by have h := Box.new (w4.alloc (.cells #[.int .i64 2, .int .i64 0] 3)) #[.slice (some ⟨w4.heap.size, 0, none⟩) 2 2, .bool false, .slice none 0 0] 39; have h := h.alloc (.cells #[.int .i64 3, .slice (some ⟨w4.heap.size + 1, 0, none⟩) 1 1] 24); simpa using h) (by omega) (litInts rfl (by decide) (by omega) (by simp [I64]) (by omega) (((Box.new w4 #[.int .i64 2, .int .i64 0] 3).alloc _).alloc _)) noInts⟩
  go_wp2_with fail
  refine (all27_any (w4.heap.size + 1 + 1 + 1) _ _ _ sxE HF4.out (by simp)).mono ?_
  rintro e w5 ⟨v, rfl, ho, hb⟩
  rw [sxE_ans.1]
  rw [sxE_ans.2] at ho
  obtain ⟨a5, c5, rfl, _⟩ := ho.form
  simp only [List.length_cons, List.length_nil, Nat.zero_add, Nat.reduceAdd]
  have HO5 := Lib.hid ho.isMat
  clear ho
  have HE5 := Lib.hid hb
  have HB5 : Hid (Below w.heap.size w w5) := Lib.hid (HT4.out.trans (hb.mono (by have := HT4.out.size; simp only [World.size_alloc] at this ⊢; omega)))
  have HS5 : Hid (Below w4.heap.size w4 w5) := Lib.hid (HQ4.out.trans (hb.mono (by have := HQ4.out.size; simp only [World.size_alloc] at this ⊢; omega)))
  clear hb
  have HFE : Hid (IsFlow w5.heap.size w5 (.int .i64 3) (.slice (some ⟨w4.heap.size + 1, 0, none⟩) 1 1) sxE) := Lib.hid ((HF4.out.below (by simpa using HE5.out) (Nat.le_refl _)).mono (by have := HE5.out.size; simpa using this))
  have HXE : Hid (Box w5 (w4.heap.size + 1 + 1) #[.int .i64 3, .slice (some ⟨w4.heap.size + 1, 0, none⟩) 1 1]) := Lib.hid (by
    have h := (Box.new ((w4.alloc (.cells #[.int .i64 2, .int .i64 0] 3)).alloc (.cells #[.slice (some ⟨w4.heap.size, 0, none⟩) 2 2, .bool false, .slice none 0 0] 39)) #[.int .i64 3, .slice (some ⟨w4.heap.size + 1, 0, none⟩) 1 1] 24)
    have h := h.below HE5.out (by simp)
    simpa using h)
  have HT5 : Hid (Below w.heap.size w w5) := Lib.hid (HB5.out)
  have HQ5 : Hid (Below w5.heap.size w5 w5) := Lib.hid ((Below.refl w5.heap.size w5))
  have HX5e := Lib.hid (HXE.out.ext (Below.refl w5.heap.size w5))
  obtain ⟨zx5, rx5⟩ := HX5e.out
  have HF5 := Lib.hid ((HFE.out.below (Below.refl w5.heap.size w5) (Nat.le_refl _)).mono (Below.refl w5.heap.size w5).size)
  go_wp2_with fail
  refine (ccount_any _ _ _ _ sxE HF5.out (Nat.le_refl _)).mono ?_
  rintro e w6 ⟨rfl, hb⟩
  rw [sxE_cnt, sxE_ans.1]
  have HB6 : Hid (Below w.heap.size w w6) := Lib.hid (HT5.out.trans (hb.mono HT5.out.size))
  have HS6 : Hid (Below w5.heap.size w5 w6) := Lib.hid (HQ5.out.trans (hb.mono HQ5.out.size))
  clear hb
  clear zx5 rx5
  have HT6 : Hid (Below w.heap.size w w6) := Lib.hid (HB6.out)
  have HQ6 : Hid (Below w6.heap.size w6 w6) := Lib.hid ((Below.refl w6.heap.size w6))
  have HF6 : Hid (IsFlow (w6.heap.size) w6 (.int .i64 9) (.slice none 0 0) sxF) := Lib.hid ⟨rfl, by simp [sxF, I64], noLots⟩
  go_wp2_with fail
  refine (all27_any (w6.heap.size) _ _ _ sxF HF6.out (by simp)).mono ?_
  rintro e w7 ⟨v, rfl, ho, hb⟩
  rw [sxF_ans.1]
  rw [sxF_ans.2] at ho
  obtain ⟨a7, c7, rfl, _⟩ := ho.form
  simp only [List.length_cons, List.length_nil, Nat.zero_add, Nat.reduceAdd]
  have HO7 := Lib.hid ho.isMat
  clear ho
  have HB7 : Hid (Below w.heap.size w w7) := Lib.hid (HT6.out.trans (hb.mono HT6.out.size))
  have HS7 : Hid (Below w6.heap.size w6 w7) := Lib.hid (HQ6.out.trans (hb.mono HQ6.out.size))
  clear hb
  have HT7 : Hid (Below w.heap.size w (w7.alloc (Obj.cells #[.int .i64 4, .int .i64 1, .int .i64 3] 3))) := Lib.hid ((HB7.out.alloc (by have := HB7.out.size; simp; try omega) _))
  have HQ7 : Hid (Below w7.heap.size w7 (w7.alloc (Obj.cells #[.int .i64 4, .int .i64 1, .int .i64 3] 3))) := Lib.hid (((Below.refl w7.heap.size w7).alloc (by simp; try omega) _))
  have HX7e := Lib.hid (HXE.out.ext (HS6.out.trans (HS7.out.mono HS6.out.size)))
  obtain ⟨zx7, rx7⟩ := HX7e.out
  have HF7 := Lib.hid ((HFE.out.below (((HS6.out.trans (HS7.out.mono HS6.out.size))).trans (HQ7.out.mono ((HS6.out.trans (HS7.out.mono HS6.out.size))).size)) (Nat.le_refl _)).mono (by have := ((HS6.out.trans (HS7.out.mono HS6.out.size))).size; show w5.heap.size ≤ w7.heap.size + 1; omega))
  have HL7 : Hid (IsInts (w7.heap.size + 1) (w7.alloc (Obj.cells #[.int .i64 4, .int .i64 1, .int .i64 3] 3)) (.slice (some ⟨w7.heap.size, 0, none⟩) 3 3) [4, 1, 3]) := Lib.hid (litInts rfl (by decide) (by omega) (by simp [I64]) (by omega) (Box.new w7 #[.int .i64 4, .int .i64 1, .int .i64 3] 3))
  go_wp2_with fail
  refine (cposs_any (w7.heap.size + 1) _ _ _ _ sxE [4, 1, 3] HF7.out HL7.out (by simp)).mono ?_
  rintro e w8 ⟨rfl, hb⟩
  rw [sxE_pos.1, sxE_ans.1]
  have HB8 : Hid (Below w.heap.size w w8) := Lib.hid (HT7.out.trans (hb.mono (by have := HT7.out.size; simp only [World.size_alloc] at this ⊢; omega)))
  have HS8 : Hid (Below w7.heap.size w7 w8) := Lib.hid (HQ7.out.trans (hb.mono (by have := HQ7.out.size; simp only [World.size_alloc] at this ⊢; omega)))
  clear hb
  clear zx7 rx7
  have HT8 : Hid (Below w.heap.size w (w8.alloc (Obj.cells #[.int .i64 4, .int .i64 1, .int .i64 4] 3))) := Lib.hid ((HB8.out.alloc (by have := HB8.out.size; simp; try omega) _))
  have HQ8 : Hid (Below w8.heap.size w8 (w8.alloc (Obj.cells #[.int .i64 4, .int .i64 1, .int .i64 4] 3))) := Lib.hid (((Below.refl w8.heap.size w8).alloc (by simp; try omega) _))
  have HX8e := Lib.hid (HXE.out.ext ((HS6.out.trans (HS7.out.mono HS6.out.size)).trans (HS8.out.mono (HS6.out.trans (HS7.out.mono HS6.out.size)).size)))
  obtain ⟨zx8, rx8⟩ := HX8e.out
  have HF8 := Lib.hid ((HFE.out.below ((((HS6.out.trans (HS7.out.mono HS6.out.size)).trans (HS8.out.mono (HS6.out.trans (HS7.out.mono HS6.out.size)).size))).trans (HQ8.out.mono (((HS6.out.trans (HS7.out.mono HS6.out.size)).trans (HS8.out.mono (HS6.out.trans (HS7.out.mono HS6.out.size)).size))).size)) (Nat.le_refl _)).mono (by have := (((HS6.out.trans (HS7.out.mono HS6.out.size)).trans (HS8.out.mono (HS6.out.trans (HS7.out.mono HS6.out.size)).size))).size; show w5.heap.size ≤ w8.heap.size + 1; omega))
  have HL8 : Hid (IsInts (w8.heap.size + 1) (w8.alloc (Obj.cells #[.int .i64 4, .int .i64 1, .int .i64 4] 3)) (.slice (some ⟨w8.heap.size, 0, none⟩) 3 3) [4, 1, 4]) := Lib.hid (litInts rfl (by decide) (by omega) (by simp [I64]) (by omega) (Box.new w8 #[.int .i64 4, .int .i64 1, .int .i64 4] 3))
  go_wp2_with fail
  refine (cposs_any (w8.heap.size + 1) _ _ _ _ sxE [4, 1, 4] HF8.out HL8.out (by simp)).mono ?_
  rintro e w9 ⟨rfl, hb⟩
  rw [sxE_pos.2, sxE_ans.1]
  have HB9 : Hid (Below w.heap.size w w9) := Lib.hid (HT8.out.trans (hb.mono (by have := HT8.out.size; simp only [World.size_alloc] at this ⊢; omega)))
  have HS9 : Hid (Below w8.heap.size w8 w9) := Lib.hid (HQ8.out.trans (hb.mono (by have := HQ8.out.size; simp only [World.size_alloc] at this ⊢; omega)))
  clear hb
  clear zx8 rx8
  have HT9 : Hid (Below w.heap.size w w9) := Lib.hid (HB9.out)
  have HQ9 : Hid (Below w9.heap.size w9 w9) := Lib.hid ((Below.refl w9.heap.size w9))
  have HF9 : Hid (IsFlow w9.heap.size w9 (.int .i64 (-1)) (.slice none 0 0) sxG) := Lib.hid ⟨rfl, by simp [sxG, I64], noLots⟩
  go_wp2_with fail
  refine (ccount_any _ _ _ _ sxG HF9.out (Nat.le_refl _)).mono ?_
  rintro e w10 ⟨rfl, hb⟩
  rw [sxG_ans.2, sxG_ans.1]
  have HB10 : Hid (Below w.heap.size w w10) := Lib.hid (HT9.out.trans (hb.mono HT9.out.size))
  have HS10 : Hid (Below w9.heap.size w9 w10) := Lib.hid (HQ9.out.trans (hb.mono HQ9.out.size))
  clear hb
  have HONE := Lib.hid ((HO1.out.below ((((((((HS2.out.trans (HS3.out.mono HS2.out.size)).trans (HS4.out.mono (HS2.out.trans (HS3.out.mono HS2.out.size)).size)).trans (HS5.out.mono ((HS2.out.trans (HS3.out.mono HS2.out.size)).trans (HS4.out.mono (HS2.out.trans (HS3.out.mono HS2.out.size)).size)).size)).trans (HS6.out.mono (((HS2.out.trans (HS3.out.mono HS2.out.size)).trans (HS4.out.mono (HS2.out.trans (HS3.out.mono HS2.out.size)).size)).trans (HS5.out.mono ((HS2.out.trans (HS3.out.mono HS2.out.size)).trans (HS4.out.mono (HS2.out.trans (HS3.out.mono HS2.out.size)).size)).size)).size)).trans (HS7.out.mono ((((HS2.out.trans (HS3.out.mono HS2.out.size)).trans (HS4.out.mono (HS2.out.trans (HS3.out.mono HS2.out.size)).size)).trans (HS5.out.mono ((HS2.out.trans (HS3.out.mono HS2.out.size)).trans (HS4.out.mono (HS2.out.trans (HS3.out.mono HS2.out.size)).size)).size)).trans (HS6.out.mono (((HS2.out.trans (HS3.out.mono HS2.out.size)).trans (HS4.out.mono (HS2.out.trans (HS3.out.mono HS2.out.size)).size)).trans (HS5.out.mono ((HS2.out.trans (HS3.out.mono HS2.out.size)).trans (HS4.out.mono (HS2.out.trans (HS3.out.mono HS2.out.size)).size)).size)).size)).size)).trans (HS8.out.mono (((((HS2.out.trans (HS3.out.mono HS2.out.size)).trans (HS4.out.mono (HS2.out.trans (HS3.out.mono HS2.out.size)).size)).trans (HS5.out.mono ((HS2.out.trans (HS3.out.mono HS2.out.size)).trans (HS4.out.mono (HS2.out.trans (HS3.out.mono HS2.out.size)).size)).size)).trans (HS6.out.mono (((HS2.out.trans (HS3.out.mono HS2.out.size)).trans (HS4.out.mono (HS2.out.trans (HS3.out.mono HS2.out.size)).size)).trans (HS5.out.mono ((HS2.out.trans (HS3.out.mono HS2.out.size)).trans (HS4.out.mono (HS2.out.trans (HS3.out.mono HS2.out.size)).size)).size)).size)).trans (HS7.out.mono ((((HS2.out.trans (HS3.out.mono HS2.out.size)).trans (HS4.out.mono (HS2.out.trans (HS3.out.mono HS2.out.size)).size)).trans (HS5.out.mono ((HS2.out.trans (HS3.out.mono HS2.out.size)).trans (HS4.out.mono (HS2.out.trans (HS3.out.mono HS2.out.size)).size)).size)).trans (HS6.out.mono (((HS2.out.trans (HS3.out.mono HS2.out.size)).trans (HS4.out.mono (HS2.out.trans (HS3.out.mono HS2.out.size)).size)).trans (HS5.out.mono ((HS2.out.trans (HS3.out.mono HS2.out.size)).trans (HS4.out.mono (HS2.out.trans (HS3.out.mono HS2.out.size)).size)).size)).size)).size)).size)).trans (HS9.out.mono ((((((HS2.out.trans (HS3.out.mono HS2.out.size)).trans (HS4.out.mono (HS2.out.trans (HS3.out.mono HS2.out.size)).size)).trans (HS5.out.mono ((HS2.out.trans (HS3.out.mono HS2.out.size)).trans (HS4.out.mono (HS2.out.trans (HS3.out.mono HS2.out.size)).size)).size)).trans (HS6.out.mono (((HS2.out.trans (HS3.out.mono HS2.out.size)).trans (HS4.out.mono (HS2.out.trans (HS3.out.mono HS2.out.size)).size)).trans (HS5.out.mono ((HS2.out.trans (HS3.out.mono HS2.out.size)).trans (HS4.out.mono (HS2.out.trans (HS3.out.mono HS2.out.size)).size)).size)).size)).trans (HS7.out.mono ((((HS2.out.trans (HS3.out.mono HS2.out.size)).trans (HS4.out.mono (HS2.out.trans (HS3.out.mono HS2.out.size)).size)).trans (HS5.out.mono ((HS2.out.trans (HS3.out.mono HS2.out.size)).trans (HS4.out.mono (HS2.out.trans (HS3.out.mono HS2.out.size)).size)).size)).trans (HS6.out.mono (((HS2.out.trans (HS3.out.mono HS2.out.size)).trans (HS4.out.mono (HS2.out.trans (HS3.out.mono HS2.out.size)).size)).trans (HS5.out.mono ((HS2.out.trans (HS3.out.mono HS2.out.size)).trans (HS4.out.mono (HS2.out.trans (HS3.out.mono HS2.out.size)).size)).size)).size)).size)).trans (HS8.out.mono (((((HS2.out.trans (HS3.out.mono HS2.out.size)).trans (HS4.out.mono (HS2.out.trans (HS3.out.mono HS2.out.size)).size)).trans (HS5.out.mono ((HS2.out.trans (HS3.out.mono HS2.out.size)).trans (HS4.out.mono (HS2.out.trans (HS3.out.mono HS2.out.size)).size)).size)).trans (HS6.out.mono (((HS2.out.trans (HS3.out.mono HS2.out.size)).trans (HS4.out.mono (HS2.out.trans (HS3.out.mono HS2.out.size)).size)).trans (HS5.out.mono ((HS2.out.trans (HS3.out.mono HS2.out.size)).trans (HS4.out.mono (HS2.out.trans (HS3.out.mono HS2.out.size)).size)).size)).size)).trans (HS7.out.mono ((((HS2.out.trans (HS3.out.mono HS2.out.size)).trans (HS4.out.mono (HS2.out.trans (HS3.out.mono HS2.out.size)).size)).trans (HS5.out.mono ((HS2.out.trans (HS3.out.mono HS2.out.size)).trans (HS4.out.mono (HS2.out.trans (HS3.out.mono HS2.out.size)).size)).size)).trans (HS6.out.mono (((HS2.out.trans (HS3.out.mono HS2.out.size)).trans (HS4.out.mono (HS2.out.trans (HS3.out.mono HS2.out.size)).size)).trans (HS5.out.mono ((HS2.out.trans (HS3.out.mono HS2.out.size)).trans (HS4.out.mono (HS2.out.trans (HS3.out.mono HS2.out.size)).size)).size)).size)).size)).size)).size)).trans (HS10.out.mono (((((((HS2.out.trans (HS3.out.mono HS2.out.size)).trans (HS4.out.mono (HS2.out.trans (HS3.out.mono HS2.out.size)).size)).trans (HS5.out.mono ((HS2.out.trans (HS3.out.mono HS2.out.size)).trans (HS4.out.mono (HS2.out.trans (HS3.out.mono HS2.out.size)).size)).size)).trans (HS6.out.mono (((HS2.out.trans (HS3.out.mono HS2.out.size)).trans (HS4.out.mono (HS2.out.trans (HS3.out.mono HS2.out.size)).size)).trans (HS5.out.mono ((HS2.out.trans (HS3.out.mono HS2.out.size)).trans (HS4.out.mono (HS2.out.trans (HS3.out.mono HS2.out.size)).size)).size)).size)).trans (HS7.out.mono ((((HS2.out.trans (HS3.out.mono HS2.out.size)).trans (HS4.out.mono (HS2.out.trans (HS3.out.mono HS2.out.size)).size)).trans (HS5.out.mono ((HS2.out.trans (HS3.out.mono HS2.out.size)).trans (HS4.out.mono (HS2.out.trans (HS3.out.mono HS2.out.size)).size)).size)).trans (HS6.out.mono (((HS2.out.trans (HS3.out.mono HS2.out.size)).trans (HS4.out.mono (HS2.out.trans (HS3.out.mono HS2.out.size)).size)).trans (HS5.out.mono ((HS2.out.trans (HS3.out.mono HS2.out.size)).trans (HS4.out.mono (HS2.out.trans (HS3.out.mono HS2.out.size)).size)).size)).size)).size)).trans (HS8.out.mono (((((HS2.out.trans (HS3.out.mono HS2.out.size)).trans (HS4.out.mono (HS2.out.trans (HS3.out.mono HS2.out.size)).size)).trans (HS5.out.mono ((HS2.out.trans (HS3.out.mono HS2.out.size)).trans (HS4.out.mono (HS2.out.trans (HS3.out.mono HS2.out.size)).size)).size)).trans (HS6.out.mono (((HS2.out.trans (HS3.out.mono HS2.out.size)).trans (HS4.out.mono (HS2.out.trans (HS3.out.mono HS2.out.size)).size)).trans (HS5.out.mono ((HS2.out.trans (HS3.out.mono HS2.out.size)).trans (HS4.out.mono (HS2.out.trans (HS3.out.mono HS2.out.size)).size)).size)).size)).trans (HS7.out.mono ((((HS2.out.trans (HS3.out.mono HS2.out.size)).trans (HS4.out.mono (HS2.out.trans (HS3.out.mono HS2.out.size)).size)).trans (HS5.out.mono ((HS2.out.trans (HS3.out.mono HS2.out.size)).trans (HS4.out.mono (HS2.out.trans (HS3.out.mono HS2.out.size)).size)).size)).trans (HS6.out.mono (((HS2.out.trans (HS3.out.mono HS2.out.size)).trans (HS4.out.mono (HS2.out.trans (HS3.out.mono HS2.out.size)).size)).trans (HS5.out.mono ((HS2.out.trans (HS3.out.mono HS2.out.size)).trans (HS4.out.mono (HS2.out.trans (HS3.out.mono HS2.out.size)).size)).size)).size)).size)).size)).trans (HS9.out.mono ((((((HS2.out.trans (HS3.out.mono HS2.out.size)).trans (HS4.out.mono (HS2.out.trans (HS3.out.mono HS2.out.size)).size)).trans (HS5.out.mono ((HS2.out.trans (HS3.out.mono HS2.out.size)).trans (HS4.out.mono (HS2.out.trans (HS3.out.mono HS2.out.size)).size)).size)).trans (HS6.out.mono (((HS2.out.trans (HS3.out.mono HS2.out.size)).trans (HS4.out.mono (HS2.out.trans (HS3.out.mono HS2.out.size)).size)).trans (HS5.out.mono ((HS2.out.trans (HS3.out.mono HS2.out.size)).trans (HS4.out.mono (HS2.out.trans (HS3.out.mono HS2.out.size)).size)).size)).size)).trans (HS7.out.mono ((((HS2.out.trans (HS3.out.mono HS2.out.size)).trans (HS4.out.mono (HS2.out.trans (HS3.out.mono HS2.out.size)).size)).trans (HS5.out.mono ((HS2.out.trans (HS3.out.mono HS2.out.size)).trans (HS4.out.mono (HS2.out.trans (HS3.out.mono HS2.out.size)).size)).size)).trans (HS6.out.mono (((HS2.out.trans (HS3.out.mono HS2.out.size)).trans (HS4.out.mono (HS2.out.trans (HS3.out.mono HS2.out.size)).size)).trans (HS5.out.mono ((HS2.out.trans (HS3.out.mono HS2.out.size)).trans (HS4.out.mono (HS2.out.trans (HS3.out.mono HS2.out.size)).size)).size)).size)).size)).trans (HS8.out.mono (((((HS2.out.trans (HS3.out.mono HS2.out.size)).trans (HS4.out.mono (HS2.out.trans (HS3.out.mono HS2.out.size)).size)).trans (HS5.out.mono ((HS2.out.trans (HS3.out.mono HS2.out.size)).trans (HS4.out.mono (HS2.out.trans (HS3.out.mono HS2.out.size)).size)).size)).trans (HS6.out.mono (((HS2.out.trans (HS3.out.mono HS2.out.size)).trans (HS4.out.mono (HS2.out.trans (HS3.out.mono HS2.out.size)).size)).trans (HS5.out.mono ((HS2.out.trans (HS3.out.mono HS2.out.size)).trans (HS4.out.mono (HS2.out.trans (HS3.out.mono HS2.out.size)).size)).size)).size)).trans (HS7.out.mono ((((HS2.out.trans (HS3.out.mono HS2.out.size)).trans (HS4.out.mono (HS2.out.trans (HS3.out.mono HS2.out.size)).size)).trans (HS5.out.mono ((HS2.out.trans (HS3.out.mono HS2.out.size)).trans (HS4.out.mono (HS2.out.trans (HS3.out.mono HS2.out.size)).size)).size)).trans (HS6.out.mono (((HS2.out.trans (HS3.out.mono HS2.out.size)).trans (HS4.out.mono (HS2.out.trans (HS3.out.mono HS2.out.size)).size)).trans (HS5.out.mono ((HS2.out.trans (HS3.out.mono HS2.out.size)).trans (HS4.out.mono (HS2.out.trans (HS3.out.mono HS2.out.size)).size)).size)).size)).size)).size)).size)).size)) (Nat.le_refl _)).mono ((((((((HS2.out.trans (HS3.out.mono HS2.out.size)).trans (HS4.out.mono (HS2.out.trans (HS3.out.mono HS2.out.size)).size)).trans (HS5.out.mono ((HS2.out.trans (HS3.out.mono HS2.out.size)).trans (HS4.out.mono (HS2.out.trans (HS3.out.mono HS2.out.size)).size)).size)).trans (HS6.out.mono (((HS2.out.trans (HS3.out.mono HS2.out.size)).trans (HS4.out.mono (HS2.out.trans (HS3.out.mono HS2.out.size)).size)).trans (HS5.out.mono ((HS2.out.trans (HS3.out.mono HS2.out.size)).trans (HS4.out.mono (HS2.out.trans (HS3.out.mono HS2.out.size)).size)).size)).size)).trans (HS7.out.mono ((((HS2.out.trans (HS3.out.mono HS2.out.size)).trans (HS4.out.mono (HS2.out.trans (HS3.out.mono HS2.out.size)).size)).trans (HS5.out.mono ((HS2.out.trans (HS3.out.mono HS2.out.size)).trans (HS4.out.mono (HS2.out.trans (HS3.out.mono HS2.out.size)).size)).size)).trans (HS6.out.mono (((HS2.out.trans (HS3.out.mono HS2.out.size)).trans (HS4.out.mono (HS2.out.trans (HS3.out.mono HS2.out.size)).size)).trans (HS5.out.mono ((HS2.out.trans (HS3.out.mono HS2.out.size)).trans (HS4.out.mono (HS2.out.trans (HS3.out.mono HS2.out.size)).size)).size)).size)).size)).trans (HS8.out.mono (((((HS2.out.trans (HS3.out.mono HS2.out.size)).trans (HS4.out.mono (HS2.out.trans (HS3.out.mono HS2.out.size)).size)).trans (HS5.out.mono ((HS2.out.trans (HS3.out.mono HS2.out.size)).trans (HS4.out.mono (HS2.out.trans (HS3.out.mono HS2.out.size)).size)).size)).trans (HS6.out.mono (((HS2.out.trans (HS3.out.mono HS2.out.size)).trans (HS4.out.mono (HS2.out.trans (HS3.out.mono HS2.out.size)).size)).trans (HS5.out.mono ((HS2.out.trans (HS3.out.mono HS2.out.size)).trans (HS4.out.mono (HS2.out.trans (HS3.out.mono HS2.out.size)).size)).size)).size)).trans (HS7.out.mono ((((HS2.out.trans (HS3.out.mono HS2.out.size)).trans (HS4.out.mono (HS2.out.trans (HS3.out.mono HS2.out.size)).size)).trans (HS5.out.mono ((HS2.out.trans (HS3.out.mono HS2.out.size)).trans (HS4.out.mono (HS2.out.trans (HS3.out.mono HS2.out.size)).size)).size)).trans (HS6.out.mono (((HS2.out.trans (HS3.out.mono HS2.out.size)).trans (HS4.out.mono (HS2.out.trans (HS3.out.mono HS2.out.size)).size)).trans (HS5.out.mono ((HS2.out.trans (HS3.out.mono HS2.out.size)).trans (HS4.out.mono (HS2.out.trans (HS3.out.mono HS2.out.size)).size)).size)).size)).size)).size)).trans (HS9.out.mono ((((((HS2.out.trans (HS3.out.mono HS2.out.size)).trans (HS4.out.mono (HS2.out.trans (HS3.out.mono HS2.out.size)).size)).trans (HS5.out.mono ((HS2.out.trans (HS3.out.mono HS2.out.size)).trans (HS4.out.mono (HS2.out.trans (HS3.out.mono HS2.out.size)).size)).size)).trans (HS6.out.mono (((HS2.out.trans (HS3.out.mono HS2.out.size)).trans (HS4.out.mono (HS2.out.trans (HS3.out.mono HS2.out.size)).size)).trans (HS5.out.mono ((HS2.out.trans (HS3.out.mono HS2.out.size)).trans (HS4.out.mono (HS2.out.trans (HS3.out.mono HS2.out.size)).size)).size)).size)).trans (HS7.out.mono ((((HS2.out.trans (HS3.out.mono HS2.out.size)).trans (HS4.out.mono (HS2.out.trans (HS3.out.mono HS2.out.size)).size)).trans (HS5.out.mono ((HS2.out.trans (HS3.out.mono HS2.out.size)).trans (HS4.out.mono (HS2.out.trans (HS3.out.mono HS2.out.size)).size)).size)).trans (HS6.out.mono (((HS2.out.trans (HS3.out.mono HS2.out.size)).trans (HS4.out.mono (HS2.out.trans (HS3.out.mono HS2.out.size)).size)).trans (HS5.out.mono ((HS2.out.trans (HS3.out.mono HS2.out.size)).trans (HS4.out.mono (HS2.out.trans (HS3.out.mono HS2.out.size)).size)).size)).size)).size)).trans (HS8.out.mono (((((HS2.out.trans (HS3.out.mono HS2.out.size)).trans (HS4.out.mono (HS2.out.trans (HS3.out.mono HS2.out.size)).size)).trans (HS5.out.mono ((HS2.out.trans (HS3.out.mono HS2.out.size)).trans (HS4.out.mono (HS2.out.trans (HS3.out.mono HS2.out.size)).size)).size)).trans (HS6.out.mono (((HS2.out.trans (HS3.out.mono HS2.out.size)).trans (HS4.out.mono (HS2.out.trans (HS3.out.mono HS2.out.size)).size)).trans (HS5.out.mono ((HS2.out.trans (HS3.out.mono HS2.out.size)).trans (HS4.out.mono (HS2.out.trans (HS3.out.mono HS2.out.size)).size)).size)).size)).trans (HS7.out.mono ((((HS2.out.trans (HS3.out.mono HS2.out.size)).trans (HS4.out.mono (HS2.out.trans (HS3.out.mono HS2.out.size)).size)).trans (HS5.out.mono ((HS2.out.trans (HS3.out.mono HS2.out.size)).trans (HS4.out.mono (HS2.out.trans (HS3.out.mono HS2.out.size)).size)).size)).trans (HS6.out.mono (((HS2.out.trans (HS3.out.mono HS2.out.size)).trans (HS4.out.mono (HS2.out.trans (HS3.out.mono HS2.out.size)).size)).trans (HS5.out.mono ((HS2.out.trans (HS3.out.mono HS2.out.size)).trans (HS4.out.mono (HS2.out.trans (HS3.out.mono HS2.out.size)).size)).size)).size)).size)).size)).size)).trans (HS10.out.mono (((((((HS2.out.trans (HS3.out.mono HS2.out.size)).trans (HS4.out.mono (HS2.out.trans (HS3.out.mono HS2.out.size)).size)).trans (HS5.out.mono ((HS2.out.trans (HS3.out.mono HS2.out.size)).trans (HS4.out.mono (HS2.out.trans (HS3.out.mono HS2.out.size)).size)).size)).trans (HS6.out.mono (((HS2.out.trans (HS3.out.mono HS2.out.size)).trans (HS4.out.mono (HS2.out.trans (HS3.out.mono HS2.out.size)).size)).trans (HS5.out.mono ((HS2.out.trans (HS3.out.mono HS2.out.size)).trans (HS4.out.mono (HS2.out.trans (HS3.out.mono HS2.out.size)).size)).size)).size)).trans (HS7.out.mono ((((HS2.out.trans (HS3.out.mono HS2.out.size)).trans (HS4.out.mono (HS2.out.trans (HS3.out.mono HS2.out.size)).size)).trans (HS5.out.mono ((HS2.out.trans (HS3.out.mono HS2.out.size)).trans (HS4.out.mono (HS2.out.trans (HS3.out.mono HS2.out.size)).size)).size)).trans (HS6.out.mono (((HS2.out.trans (HS3.out.mono HS2.out.size)).trans (HS4.out.mono (HS2.out.trans (HS3.out.mono HS2.out.size)).size)).trans (HS5.out.mono ((HS2.out.trans (HS3.out.mono HS2.out.size)).trans (HS4.out.mono (HS2.out.trans (HS3.out.mono HS2.out.size)).size)).size)).size)).size)).trans (HS8.out.mono (((((HS2.out.trans (HS3.out.mono HS2.out.size)).trans (HS4.out.mono (HS2.out.trans (HS3.out.mono HS2.out.size)).size)).trans (HS5.out.mono ((HS2.out.trans (HS3.out.mono HS2.out.size)).trans (HS4.out.mono (HS2.out.trans (HS3.out.mono HS2.out.size)).size)).size)).trans (HS6.out.mono (((HS2.out.trans (HS3.out.mono HS2.out.size)).trans (HS4.out.mono (HS2.out.trans (HS3.out.mono HS2.out.size)).size)).trans (HS5.out.mono ((HS2.out.trans (HS3.out.mono HS2.out.size)).trans (HS4.out.mono (HS2.out.trans (HS3.out.mono HS2.out.size)).size)).size)).size)).trans (HS7.out.mono ((((HS2.out.trans (HS3.out.mono HS2.out.size)).trans (HS4.out.mono (HS2.out.trans (HS3.out.mono HS2.out.size)).size)).trans (HS5.out.mono ((HS2.out.trans (HS3.out.mono HS2.out.size)).trans (HS4.out.mono (HS2.out.trans (HS3.out.mono HS2.out.size)).size)).size)).trans (HS6.out.mono (((HS2.out.trans (HS3.out.mono HS2.out.size)).trans (HS4.out.mono (HS2.out.trans (HS3.out.mono HS2.out.size)).size)).trans (HS5.out.mono ((HS2.out.trans (HS3.out.mono HS2.out.size)).trans (HS4.out.mono (HS2.out.trans (HS3.out.mono HS2.out.size)).size)).size)).size)).size)).size)).trans (HS9.out.mono ((((((HS2.out.trans (HS3.out.mono HS2.out.size)).trans (HS4.out.mono (HS2.out.trans (HS3.out.mono HS2.out.size)).size)).trans (HS5.out.mono ((HS2.out.trans (HS3.out.mono HS2.out.size)).trans (HS4.out.mono (HS2.out.trans (HS3.out.mono HS2.out.size)).size)).size)).trans (HS6.out.mono (((HS2.out.trans (HS3.out.mono HS2.out.size)).trans (HS4.out.mono (HS2.out.trans (HS3.out.mono HS2.out.size)).size)).trans (HS5.out.mono ((HS2.out.trans (HS3.out.mono HS2.out.size)).trans (HS4.out.mono (HS2.out.trans (HS3.out.mono HS2.out.size)).size)).size)).size)).trans (HS7.out.mono ((((HS2.out.trans (HS3.out.mono HS2.out.size)).trans (HS4.out.mono (HS2.out.trans (HS3.out.mono HS2.out.size)).size)).trans (HS5.out.mono ((HS2.out.trans (HS3.out.mono HS2.out.size)).trans (HS4.out.mono (HS2.out.trans (HS3.out.mono HS2.out.size)).size)).size)).trans (HS6.out.mono (((HS2.out.trans (HS3.out.mono HS2.out.size)).trans (HS4.out.mono (HS2.out.trans (HS3.out.mono HS2.out.size)).size)).trans (HS5.out.mono ((HS2.out.trans (HS3.out.mono HS2.out.size)).trans (HS4.out.mono (HS2.out.trans (HS3.out.mono HS2.out.size)).size)).size)).size)).size)).trans (HS8.out.mono (((((HS2.out.trans (HS3.out.mono HS2.out.size)).trans (HS4.out.mono (HS2.out.trans (HS3.out.mono HS2.out.size)).size)).trans (HS5.out.mono ((HS2.out.trans (HS3.out.mono HS2.out.size)).trans (HS4.out.mono (HS2.out.trans (HS3.out.mono HS2.out.size)).size)).size)).trans (HS6.out.mono (((HS2.out.trans (HS3.out.mono HS2.out.size)).trans (HS4.out.mono (HS2.out.trans (HS3.out.mono HS2.out.size)).size)).trans (HS5.out.mono ((HS2.out.trans (HS3.out.mono HS2.out.size)).trans (HS4.out.mono (HS2.out.trans (HS3.out.mono HS2.out.size)).size)).size)).size)).trans (HS7.out.mono ((((HS2.out.trans (HS3.out.mono HS2.out.size)).trans (HS4.out.mono (HS2.out.trans (HS3.out.mono HS2.out.size)).size)).trans (HS5.out.mono ((HS2.out.trans (HS3.out.mono HS2.out.size)).trans (HS4.out.mono (HS2.out.trans (HS3.out.mono HS2.out.size)).size)).size)).trans (HS6.out.mono (((HS2.out.trans (HS3.out.mono HS2.out.size)).trans (HS4.out.mono (HS2.out.trans (HS3.out.mono HS2.out.size)).size)).trans (HS5.out.mono ((HS2.out.trans (HS3.out.mono HS2.out.size)).trans (HS4.out.mono (HS2.out.trans (HS3.out.mono HS2.out.size)).size)).size)).size)).size)).size)).size)).size)).size)
  obtain ⟨bo, oo, rfl, hco⟩ := HONE.out.cells (by simp)
  obtain ⟨ro, qo, io⟩ := hco 0 (by simp)
  obtain ⟨ao, co, rfl⟩ := io.form
  have hq0 := qo.2
  have e0 : (rowAt [([] : List Int)] 0).length = 0 := rfl
  rw [e0, Nat.add_zero] at hq0
  clear hco qo io e0
  have HT10 : Hid (Below w.heap.size w ((w10.alloc (Obj.cells #[.int .i64 0, .int .i64 1] 3)).alloc (Obj.cells #[.slice (some ⟨w10.heap.size, 0, none⟩) 2 2] 34))) := Lib.hid (((HB10.out.alloc (by have := HB10.out.size; simp; try omega) _).alloc (by have := HB10.out.size; simp; try omega) _))
  have HQ10 : Hid (Below w10.heap.size w10 ((w10.alloc (Obj.cells #[.int .i64 0, .int .i64 1] 3)).alloc (Obj.cells #[.slice (some ⟨w10.heap.size, 0, none⟩) 2 2] 34))) := Lib.hid ((((Below.refl w10.heap.size w10).alloc (by simp; try omega) _).alloc (by simp; try omega) _))
  have HM10 := Lib.hid (((HO2.out.below (((((((HS3.out.trans (HS4.out.mono HS3.out.size)).trans (HS5.out.mono (HS3.out.trans (HS4.out.mono HS3.out.size)).size)).trans (HS6.out.mono ((HS3.out.trans (HS4.out.mono HS3.out.size)).trans (HS5.out.mono (HS3.out.trans (HS4.out.mono HS3.out.size)).size)).size)).trans (HS7.out.mono (((HS3.out.trans (HS4.out.mono HS3.out.size)).trans (HS5.out.mono (HS3.out.trans (HS4.out.mono HS3.out.size)).size)).trans (HS6.out.mono ((HS3.out.trans (HS4.out.mono HS3.out.size)).trans (HS5.out.mono (HS3.out.trans (HS4.out.mono HS3.out.size)).size)).size)).size)).trans (HS8.out.mono ((((HS3.out.trans (HS4.out.mono HS3.out.size)).trans (HS5.out.mono (HS3.out.trans (HS4.out.mono HS3.out.size)).size)).trans (HS6.out.mono ((HS3.out.trans (HS4.out.mono HS3.out.size)).trans (HS5.out.mono (HS3.out.trans (HS4.out.mono HS3.out.size)).size)).size)).trans (HS7.out.mono (((HS3.out.trans (HS4.out.mono HS3.out.size)).trans (HS5.out.mono (HS3.out.trans (HS4.out.mono HS3.out.size)).size)).trans (HS6.out.mono ((HS3.out.trans (HS4.out.mono HS3.out.size)).trans (HS5.out.mono (HS3.out.trans (HS4.out.mono HS3.out.size)).size)).size)).size)).size)).trans (HS9.out.mono (((((HS3.out.trans (HS4.out.mono HS3.out.size)).trans (HS5.out.mono (HS3.out.trans (HS4.out.mono HS3.out.size)).size)).trans (HS6.out.mono ((HS3.out.trans (HS4.out.mono HS3.out.size)).trans (HS5.out.mono (HS3.out.trans (HS4.out.mono HS3.out.size)).size)).size)).trans (HS7.out.mono (((HS3.out.trans (HS4.out.mono HS3.out.size)).trans (HS5.out.mono (HS3.out.trans (HS4.out.mono HS3.out.size)).size)).trans (HS6.out.mono ((HS3.out.trans (HS4.out.mono HS3.out.size)).trans (HS5.out.mono (HS3.out.trans (HS4.out.mono HS3.out.size)).size)).size)).size)).trans (HS8.out.mono ((((HS3.out.trans (HS4.out.mono HS3.out.size)).trans (HS5.out.mono (HS3.out.trans (HS4.out.mono HS3.out.size)).size)).trans (HS6.out.mono ((HS3.out.trans (HS4.out.mono HS3.out.size)).trans (HS5.out.mono (HS3.out.trans (HS4.out.mono HS3.out.size)).size)).size)).trans (HS7.out.mono (((HS3.out.trans (HS4.out.mono HS3.out.size)).trans (HS5.out.mono (HS3.out.trans (HS4.out.mono HS3.out.size)).size)).trans (HS6.out.mono ((HS3.out.trans (HS4.out.mono HS3.out.size)).trans (HS5.out.mono (HS3.out.trans (HS4.out.mono HS3.out.size)).size)).size)).size)).size)).size)).trans (HS10.out.mono ((((((HS3.out.trans (HS4.out.mono HS3.out.size)).trans (HS5.out.mono (HS3.out.trans (HS4.out.mono HS3.out.size)).size)).trans (HS6.out.mono ((HS3.out.trans (HS4.out.mono HS3.out.size)).trans (HS5.out.mono (HS3.out.trans (HS4.out.mono HS3.out.size)).size)).size)).trans (HS7.out.mono (((HS3.out.trans (HS4.out.mono HS3.out.size)).trans (HS5.out.mono (HS3.out.trans (HS4.out.mono HS3.out.size)).size)).trans (HS6.out.mono ((HS3.out.trans (HS4.out.mono HS3.out.size)).trans (HS5.out.mono (HS3.out.trans (HS4.out.mono HS3.out.size)).size)).size)).size)).trans (HS8.out.mono ((((HS3.out.trans (HS4.out.mono HS3.out.size)).trans (HS5.out.mono (HS3.out.trans (HS4.out.mono HS3.out.size)).size)).trans (HS6.out.mono ((HS3.out.trans (HS4.out.mono HS3.out.size)).trans (HS5.out.mono (HS3.out.trans (HS4.out.mono HS3.out.size)).size)).size)).trans (HS7.out.mono (((HS3.out.trans (HS4.out.mono HS3.out.size)).trans (HS5.out.mono (HS3.out.trans (HS4.out.mono HS3.out.size)).size)).trans (HS6.out.mono ((HS3.out.trans (HS4.out.mono HS3.out.size)).trans (HS5.out.mono (HS3.out.trans (HS4.out.mono HS3.out.size)).size)).size)).size)).size)).trans (HS9.out.mono (((((HS3.out.trans (HS4.out.mono HS3.out.size)).trans (HS5.out.mono (HS3.out.trans (HS4.out.mono HS3.out.size)).size)).trans (HS6.out.mono ((HS3.out.trans (HS4.out.mono HS3.out.size)).trans (HS5.out.mono (HS3.out.trans (HS4.out.mono HS3.out.size)).size)).size)).trans (HS7.out.mono (((HS3.out.trans (HS4.out.mono HS3.out.size)).trans (HS5.out.mono (HS3.out.trans (HS4.out.mono HS3.out.size)).size)).trans (HS6.out.mono ((HS3.out.trans (HS4.out.mono HS3.out.size)).trans (HS5.out.mono (HS3.out.trans (HS4.out.mono HS3.out.size)).size)).size)).size)).trans (HS8.out.mono ((((HS3.out.trans (HS4.out.mono HS3.out.size)).trans (HS5.out.mono (HS3.out.trans (HS4.out.mono HS3.out.size)).size)).trans (HS6.out.mono ((HS3.out.trans (HS4.out.mono HS3.out.size)).trans (HS5.out.mono (HS3.out.trans (HS4.out.mono HS3.out.size)).size)).size)).trans (HS7.out.mono (((HS3.out.trans (HS4.out.mono HS3.out.size)).trans (HS5.out.mono (HS3.out.trans (HS4.out.mono HS3.out.size)).size)).trans (HS6.out.mono ((HS3.out.trans (HS4.out.mono HS3.out.size)).trans (HS5.out.mono (HS3.out.trans (HS4.out.mono HS3.out.size)).size)).size)).size)).size)).size)).size)) (Nat.le_refl _)).mono (((((((HS3.out.trans (HS4.out.mono HS3.out.size)).trans (HS5.out.mono (HS3.out.trans (HS4.out.mono HS3.out.size)).size)).trans (HS6.out.mono ((HS3.out.trans (HS4.out.mono HS3.out.size)).trans (HS5.out.mono (HS3.out.trans (HS4.out.mono HS3.out.size)).size)).size)).trans (HS7.out.mono (((HS3.out.trans (HS4.out.mono HS3.out.size)).trans (HS5.out.mono (HS3.out.trans (HS4.out.mono HS3.out.size)).size)).trans (HS6.out.mono ((HS3.out.trans (HS4.out.mono HS3.out.size)).trans (HS5.out.mono (HS3.out.trans (HS4.out.mono HS3.out.size)).size)).size)).size)).trans (HS8.out.mono ((((HS3.out.trans (HS4.out.mono HS3.out.size)).trans (HS5.out.mono (HS3.out.trans (HS4.out.mono HS3.out.size)).size)).trans (HS6.out.mono ((HS3.out.trans (HS4.out.mono HS3.out.size)).trans (HS5.out.mono (HS3.out.trans (HS4.out.mono HS3.out.size)).size)).size)).trans (HS7.out.mono (((HS3.out.trans (HS4.out.mono HS3.out.size)).trans (HS5.out.mono (HS3.out.trans (HS4.out.mono HS3.out.size)).size)).trans (HS6.out.mono ((HS3.out.trans (HS4.out.mono HS3.out.size)).trans (HS5.out.mono (HS3.out.trans (HS4.out.mono HS3.out.size)).size)).size)).size)).size)).trans (HS9.out.mono (((((HS3.out.trans (HS4.out.mono HS3.out.size)).trans (HS5.out.mono (HS3.out.trans (HS4.out.mono HS3.out.size)).size)).trans (HS6.out.mono ((HS3.out.trans (HS4.out.mono HS3.out.size)).trans (HS5.out.mono (HS3.out.trans (HS4.out.mono HS3.out.size)).size)).size)).trans (HS7.out.mono (((HS3.out.trans (HS4.out.mono HS3.out.size)).trans (HS5.out.mono (HS3.out.trans (HS4.out.mono HS3.out.size)).size)).trans (HS6.out.mono ((HS3.out.trans (HS4.out.mono HS3.out.size)).trans (HS5.out.mono (HS3.out.trans (HS4.out.mono HS3.out.size)).size)).size)).size)).trans (HS8.out.mono ((((HS3.out.trans (HS4.out.mono HS3.out.size)).trans (HS5.out.mono (HS3.out.trans (HS4.out.mono HS3.out.size)).size)).trans (HS6.out.mono ((HS3.out.trans (HS4.out.mono HS3.out.size)).trans (HS5.out.mono (HS3.out.trans (HS4.out.mono HS3.out.size)).size)).size)).trans (HS7.out.mono (((HS3.out.trans (HS4.out.mono HS3.out.size)).trans (HS5.out.mono (HS3.out.trans (HS4.out.mono HS3.out.size)).size)).trans (HS6.out.mono ((HS3.out.trans (HS4.out.mono HS3.out.size)).trans (HS5.out.mono (HS3.out.trans (HS4.out.mono HS3.out.size)).size)).size)).size)).size)).size)).trans (HS10.out.mono ((((((HS3.out.trans (HS4.out.mono HS3.out.size)).trans (HS5.out.mono (HS3.out.trans (HS4.out.mono HS3.out.size)).size)).trans (HS6.out.mono ((HS3.out.trans (HS4.out.mono HS3.out.size)).trans (HS5.out.mono (HS3.out.trans (HS4.out.mono HS3.out.size)).size)).size)).trans (HS7.out.mono (((HS3.out.trans (HS4.out.mono HS3.out.size)).trans (HS5.out.mono (HS3.out.trans (HS4.out.mono HS3.out.size)).size)).trans (HS6.out.mono ((HS3.out.trans (HS4.out.mono HS3.out.size)).trans (HS5.out.mono (HS3.out.trans (HS4.out.mono HS3.out.size)).size)).size)).size)).trans (HS8.out.mono ((((HS3.out.trans (HS4.out.mono HS3.out.size)).trans (HS5.out.mono (HS3.out.trans (HS4.out.mono HS3.out.size)).size)).trans (HS6.out.mono ((HS3.out.trans (HS4.out.mono HS3.out.size)).trans (HS5.out.mono (HS3.out.trans (HS4.out.mono HS3.out.size)).size)).size)).trans (HS7.out.mono (((HS3.out.trans (HS4.out.mono HS3.out.size)).trans (HS5.out.mono (HS3.out.trans (HS4.out.mono HS3.out.size)).size)).trans (HS6.out.mono ((HS3.out.trans (HS4.out.mono HS3.out.size)).trans (HS5.out.mono (HS3.out.trans (HS4.out.mono HS3.out.size)).size)).size)).size)).size)).trans (HS9.out.mono (((((HS3.out.trans (HS4.out.mono HS3.out.size)).trans (HS5.out.mono (HS3.out.trans (HS4.out.mono HS3.out.size)).size)).trans (HS6.out.mono ((HS3.out.trans (HS4.out.mono HS3.out.size)).trans (HS5.out.mono (HS3.out.trans (HS4.out.mono HS3.out.size)).size)).size)).trans (HS7.out.mono (((HS3.out.trans (HS4.out.mono HS3.out.size)).trans (HS5.out.mono (HS3.out.trans (HS4.out.mono HS3.out.size)).size)).trans (HS6.out.mono ((HS3.out.trans (HS4.out.mono HS3.out.size)).trans (HS5.out.mono (HS3.out.trans (HS4.out.mono HS3.out.size)).size)).size)).size)).trans (HS8.out.mono ((((HS3.out.trans (HS4.out.mono HS3.out.size)).trans (HS5.out.mono (HS3.out.trans (HS4.out.mono HS3.out.size)).size)).trans (HS6.out.mono ((HS3.out.trans (HS4.out.mono HS3.out.size)).trans (HS5.out.mono (HS3.out.trans (HS4.out.mono HS3.out.size)).size)).size)).trans (HS7.out.mono (((HS3.out.trans (HS4.out.mono HS3.out.size)).trans (HS5.out.mono (HS3.out.trans (HS4.out.mono HS3.out.size)).size)).trans (HS6.out.mono ((HS3.out.trans (HS4.out.mono HS3.out.size)).trans (HS5.out.mono (HS3.out.trans (HS4.out.mono HS3.out.size)).size)).size)).size)).size)).size)).size)).size).below HQ10.out (Nat.le_refl _))
  have HN10 : Hid (IsMat (w10.heap.size + 1 + 1) ((w10.alloc (Obj.cells #[.int .i64 0, .int .i64 1] 3)).alloc (Obj.cells #[.slice (some ⟨w10.heap.size, 0, none⟩) 2 2] 34)) (.slice (some ⟨w10.heap.size + 1, 0, none⟩) 1 1) [[0, 1]]) := Lib.hid (litMat1 (by have h := Box.new (w10.alloc (Obj.cells #[.int .i64 0, .int .i64 1] 3)) (#[.slice (some ⟨w10.heap.size, 0, none⟩) 2 2] : Array Value) 34; simpa using h) (by omega) (litInts (b := w10.heap.size) rfl (by decide) (by omega) (by simp [I64]) (by omega) (by have h := Box.new w10 (#[.int .i64 0, .int .i64 1] : Array Value) 3; have h := h.alloc (.cells (#[.slice (some ⟨w10.heap.size, 0, none⟩) 2 2] : Array Value) 34); simpa using h)))
  go_wp2_with fail
  refine (sameM_any _ (w10.heap.size + 1 + 1) _ _ _ _ _ HM10.out HN10.out).mono ?_
  rintro e w11 ⟨rfl, hd⟩
  have hb := hd.below (w10.heap.size + 1 + 1)
  clear hd
  rw [show sameM [[0, 1]] [[0, 1]] = true from by decide]
  have HB11 : Hid (Below w.heap.size w w11) := Lib.hid (HT10.out.trans (hb.mono (by have := HT10.out.size; simp only [World.size_alloc] at this ⊢; omega)))
  have HS11 : Hid (Below w10.heap.size w10 w11) := Lib.hid (HQ10.out.trans (hb.mono (by have := HQ10.out.size; simp only [World.size_alloc] at this ⊢; omega)))
  clear hb
  have HT11 : Hid (Below w.heap.size w ((w11.alloc (Obj.cells #[.int .i64 3, .int .i64 2] 3)).alloc (Obj.cells #[.slice (some ⟨w11.heap.size, 0, none⟩) 2 2] 34))) := Lib.hid (((HB11.out.alloc (by have := HB11.out.size; simp; try omega) _).alloc (by have := HB11.out.size; simp; try omega) _))
  have HQ11 : Hid (Below w11.heap.size w11 ((w11.alloc (Obj.cells #[.int .i64 3, .int .i64 2] 3)).alloc (Obj.cells #[.slice (some ⟨w11.heap.size, 0, none⟩) 2 2] 34))) := Lib.hid ((((Below.refl w11.heap.size w11).alloc (by simp; try omega) _).alloc (by simp; try omega) _))
  have HM11 := Lib.hid (((HO3.out.below (((((((HS4.out.trans (HS5.out.mono HS4.out.size)).trans (HS6.out.mono (HS4.out.trans (HS5.out.mono HS4.out.size)).size)).trans (HS7.out.mono ((HS4.out.trans (HS5.out.mono HS4.out.size)).trans (HS6.out.mono (HS4.out.trans (HS5.out.mono HS4.out.size)).size)).size)).trans (HS8.out.mono (((HS4.out.trans (HS5.out.mono HS4.out.size)).trans (HS6.out.mono (HS4.out.trans (HS5.out.mono HS4.out.size)).size)).trans (HS7.out.mono ((HS4.out.trans (HS5.out.mono HS4.out.size)).trans (HS6.out.mono (HS4.out.trans (HS5.out.mono HS4.out.size)).size)).size)).size)).trans (HS9.out.mono ((((HS4.out.trans (HS5.out.mono HS4.out.size)).trans (HS6.out.mono (HS4.out.trans (HS5.out.mono HS4.out.size)).size)).trans (HS7.out.mono ((HS4.out.trans (HS5.out.mono HS4.out.size)).trans (HS6.out.mono (HS4.out.trans (HS5.out.mono HS4.out.size)).size)).size)).trans (HS8.out.mono (((HS4.out.trans (HS5.out.mono HS4.out.size)).trans (HS6.out.mono (HS4.out.trans (HS5.out.mono HS4.out.size)).size)).trans (HS7.out.mono ((HS4.out.trans (HS5.out.mono HS4.out.size)).trans (HS6.out.mono (HS4.out.trans (HS5.out.mono HS4.out.size)).size)).size)).size)).size)).trans (HS10.out.mono (((((HS4.out.trans (HS5.out.mono HS4.out.size)).trans (HS6.out.mono (HS4.out.trans (HS5.out.mono HS4.out.size)).size)).trans (HS7.out.mono ((HS4.out.trans (HS5.out.mono HS4.out.size)).trans (HS6.out.mono (HS4.out.trans (HS5.out.mono HS4.out.size)).size)).size)).trans (HS8.out.mono (((HS4.out.trans (HS5.out.mono HS4.out.size)).trans (HS6.out.mono (HS4.out.trans (HS5.out.mono HS4.out.size)).size)).trans (HS7.out.mono ((HS4.out.trans (HS5.out.mono HS4.out.size)).trans (HS6.out.mono (HS4.out.trans (HS5.out.mono HS4.out.size)).size)).size)).size)).trans (HS9.out.mono ((((HS4.out.trans (HS5.out.mono HS4.out.size)).trans (HS6.out.mono (HS4.out.trans (HS5.out.mono HS4.out.size)).size)).trans (HS7.out.mono ((HS4.out.trans (HS5.out.mono HS4.out.size)).trans (HS6.out.mono (HS4.out.trans (HS5.out.mono HS4.out.size)).size)).size)).trans (HS8.out.mono (((HS4.out.trans (HS5.out.mono HS4.out.size)).trans (HS6.out.mono (HS4.out.trans (HS5.out.mono HS4.out.size)).size)).trans (HS7.out.mono ((HS4.out.trans (HS5.out.mono HS4.out.size)).trans (HS6.out.mono (HS4.out.trans (HS5.out.mono HS4.out.size)).size)).size)).size)).size)).size)).trans (HS11.out.mono ((((((HS4.out.trans (HS5.out.mono HS4.out.size)).trans (HS6.out.mono (HS4.out.trans (HS5.out.mono HS4.out.size)).size)).trans (HS7.out.mono ((HS4.out.trans (HS5.out.mono HS4.out.size)).trans (HS6.out.mono (HS4.out.trans (HS5.out.mono HS4.out.size)).size)).size)).trans (HS8.out.mono (((HS4.out.trans (HS5.out.mono HS4.out.size)).trans (HS6.out.mono (HS4.out.trans (HS5.out.mono HS4.out.size)).size)).trans (HS7.out.mono ((HS4.out.trans (HS5.out.mono HS4.out.size)).trans (HS6.out.mono (HS4.out.trans (HS5.out.mono HS4.out.size)).size)).size)).size)).trans (HS9.out.mono ((((HS4.out.trans (HS5.out.mono HS4.out.size)).trans (HS6.out.mono (HS4.out.trans (HS5.out.mono HS4.out.size)).size)).trans (HS7.out.mono ((HS4.out.trans (HS5.out.mono HS4.out.size)).trans (HS6.out.mono (HS4.out.trans (HS5.out.mono HS4.out.size)).size)).size)).trans (HS8.out.mono (((HS4.out.trans (HS5.out.mono HS4.out.size)).trans (HS6.out.mono (HS4.out.trans (HS5.out.mono HS4.out.size)).size)).trans (HS7.out.mono ((HS4.out.trans (HS5.out.mono HS4.out.size)).trans (HS6.out.mono (HS4.out.trans (HS5.out.mono HS4.out.size)).size)).size)).size)).size)).trans (HS10.out.mono (((((HS4.out.trans (HS5.out.mono HS4.out.size)).trans (HS6.out.mono (HS4.out.trans (HS5.out.mono HS4.out.size)).size)).trans (HS7.out.mono ((HS4.out.trans (HS5.out.mono HS4.out.size)).trans (HS6.out.mono (HS4.out.trans (HS5.out.mono HS4.out.size)).size)).size)).trans (HS8.out.mono (((HS4.out.trans (HS5.out.mono HS4.out.size)).trans (HS6.out.mono (HS4.out.trans (HS5.out.mono HS4.out.size)).size)).trans (HS7.out.mono ((HS4.out.trans (HS5.out.mono HS4.out.size)).trans (HS6.out.mono (HS4.out.trans (HS5.out.mono HS4.out.size)).size)).size)).size)).trans (HS9.out.mono ((((HS4.out.trans (HS5.out.mono HS4.out.size)).trans (HS6.out.mono (HS4.out.trans (HS5.out.mono HS4.out.size)).size)).trans (HS7.out.mono ((HS4.out.trans (HS5.out.mono HS4.out.size)).trans (HS6.out.mono (HS4.out.trans (HS5.out.mono HS4.out.size)).size)).size)).trans (HS8.out.mono (((HS4.out.trans (HS5.out.mono HS4.out.size)).trans (HS6.out.mono (HS4.out.trans (HS5.out.mono HS4.out.size)).size)).trans (HS7.out.mono ((HS4.out.trans (HS5.out.mono HS4.out.size)).trans (HS6.out.mono (HS4.out.trans (HS5.out.mono HS4.out.size)).size)).size)).size)).size)).size)).size)) (Nat.le_refl _)).mono (((((((HS4.out.trans (HS5.out.mono HS4.out.size)).trans (HS6.out.mono (HS4.out.trans (HS5.out.mono HS4.out.size)).size)).trans (HS7.out.mono ((HS4.out.trans (HS5.out.mono HS4.out.size)).trans (HS6.out.mono (HS4.out.trans (HS5.out.mono HS4.out.size)).size)).size)).trans (HS8.out.mono (((HS4.out.trans (HS5.out.mono HS4.out.size)).trans (HS6.out.mono (HS4.out.trans (HS5.out.mono HS4.out.size)).size)).trans (HS7.out.mono ((HS4.out.trans (HS5.out.mono HS4.out.size)).trans (HS6.out.mono (HS4.out.trans (HS5.out.mono HS4.out.size)).size)).size)).size)).trans (HS9.out.mono ((((HS4.out.trans (HS5.out.mono HS4.out.size)).trans (HS6.out.mono (HS4.out.trans (HS5.out.mono HS4.out.size)).size)).trans (HS7.out.mono ((HS4.out.trans (HS5.out.mono HS4.out.size)).trans (HS6.out.mono (HS4.out.trans (HS5.out.mono HS4.out.size)).size)).size)).trans (HS8.out.mono (((HS4.out.trans (HS5.out.mono HS4.out.size)).trans (HS6.out.mono (HS4.out.trans (HS5.out.mono HS4.out.size)).size)).trans (HS7.out.mono ((HS4.out.trans (HS5.out.mono HS4.out.size)).trans (HS6.out.mono (HS4.out.trans (HS5.out.mono HS4.out.size)).size)).size)).size)).size)).trans (HS10.out.mono (((((HS4.out.trans (HS5.out.mono HS4.out.size)).trans (HS6.out.mono (HS4.out.trans (HS5.out.mono HS4.out.size)).size)).trans (HS7.out.mono ((HS4.out.trans (HS5.out.mono HS4.out.size)).trans (HS6.out.mono (HS4.out.trans (HS5.out.mono HS4.out.size)).size)).size)).trans (HS8.out.mono (((HS4.out.trans (HS5.out.mono HS4.out.size)).trans (HS6.out.mono (HS4.out.trans (HS5.out.mono HS4.out.size)).size)).trans (HS7.out.mono ((HS4.out.trans (HS5.out.mono HS4.out.size)).trans (HS6.out.mono (HS4.out.trans (HS5.out.mono HS4.out.size)).size)).size)).size)).trans (HS9.out.mono ((((HS4.out.trans (HS5.out.mono HS4.out.size)).trans (HS6.out.mono (HS4.out.trans (HS5.out.mono HS4.out.size)).size)).trans (HS7.out.mono ((HS4.out.trans (HS5.out.mono HS4.out.size)).trans (HS6.out.mono (HS4.out.trans (HS5.out.mono HS4.out.size)).size)).size)).trans (HS8.out.mono (((HS4.out.trans (HS5.out.mono HS4.out.size)).trans (HS6.out.mono (HS4.out.trans (HS5.out.mono HS4.out.size)).size)).trans (HS7.out.mono ((HS4.out.trans (HS5.out.mono HS4.out.size)).trans (HS6.out.mono (HS4.out.trans (HS5.out.mono HS4.out.size)).size)).size)).size)).size)).size)).trans (HS11.out.mono ((((((HS4.out.trans (HS5.out.mono HS4.out.size)).trans (HS6.out.mono (HS4.out.trans (HS5.out.mono HS4.out.size)).size)).trans (HS7.out.mono ((HS4.out.trans (HS5.out.mono HS4.out.size)).trans (HS6.out.mono (HS4.out.trans (HS5.out.mono HS4.out.size)).size)).size)).trans (HS8.out.mono (((HS4.out.trans (HS5.out.mono HS4.out.size)).trans (HS6.out.mono (HS4.out.trans (HS5.out.mono HS4.out.size)).size)).trans (HS7.out.mono ((HS4.out.trans (HS5.out.mono HS4.out.size)).trans (HS6.out.mono (HS4.out.trans (HS5.out.mono HS4.out.size)).size)).size)).size)).trans (HS9.out.mono ((((HS4.out.trans (HS5.out.mono HS4.out.size)).trans (HS6.out.mono (HS4.out.trans (HS5.out.mono HS4.out.size)).size)).trans (HS7.out.mono ((HS4.out.trans (HS5.out.mono HS4.out.size)).trans (HS6.out.mono (HS4.out.trans (HS5.out.mono HS4.out.size)).size)).size)).trans (HS8.out.mono (((HS4.out.trans (HS5.out.mono HS4.out.size)).trans (HS6.out.mono (HS4.out.trans (HS5.out.mono HS4.out.size)).size)).trans (HS7.out.mono ((HS4.out.trans (HS5.out.mono HS4.out.size)).trans (HS6.out.mono (HS4.out.trans (HS5.out.mono HS4.out.size)).size)).size)).size)).size)).trans (HS10.out.mono (((((HS4.out.trans (HS5.out.mono HS4.out.size)).trans (HS6.out.mono (HS4.out.trans (HS5.out.mono HS4.out.size)).size)).trans (HS7.out.mono ((HS4.out.trans (HS5.out.mono HS4.out.size)).trans (HS6.out.mono (HS4.out.trans (HS5.out.mono HS4.out.size)).size)).size)).trans (HS8.out.mono (((HS4.out.trans (HS5.out.mono HS4.out.size)).trans (HS6.out.mono (HS4.out.trans (HS5.out.mono HS4.out.size)).size)).trans (HS7.out.mono ((HS4.out.trans (HS5.out.mono HS4.out.size)).trans (HS6.out.mono (HS4.out.trans (HS5.out.mono HS4.out.size)).size)).size)).size)).trans (HS9.out.mono ((((HS4.out.trans (HS5.out.mono HS4.out.size)).trans (HS6.out.mono (HS4.out.trans (HS5.out.mono HS4.out.size)).size)).trans (HS7.out.mono ((HS4.out.trans (HS5.out.mono HS4.out.size)).trans (HS6.out.mono (HS4.out.trans (HS5.out.mono HS4.out.size)).size)).size)).trans (HS8.out.mono (((HS4.out.trans (HS5.out.mono HS4.out.size)).trans (HS6.out.mono (HS4.out.trans (HS5.out.mono HS4.out.size)).size)).trans (HS7.out.mono ((HS4.out.trans (HS5.out.mono HS4.out.size)).trans (HS6.out.mono (HS4.out.trans (HS5.out.mono HS4.out.size)).size)).size)).size)).size)).size)).size)).size).below HQ11.out (Nat.le_refl _))
  have HN11 : Hid (IsMat (w11.heap.size + 1 + 1) ((w11.alloc (Obj.cells #[.int .i64 3, .int .i64 2] 3)).alloc (Obj.cells #[.slice (some ⟨w11.heap.size, 0, none⟩) 2 2] 34)) (.slice (some ⟨w11.heap.size + 1, 0, none⟩) 1 1) [[3, 2]]) := Lib.hid (litMat1 (by have h := Box.new (w11.alloc (Obj.cells #[.int .i64 3, .int .i64 2] 3)) (#[.slice (some ⟨w11.heap.size, 0, none⟩) 2 2] : Array Value) 34; simpa using h) (by omega) (litInts (b := w11.heap.size) rfl (by decide) (by omega) (by simp [I64]) (by omega) (by have h := Box.new w11 (#[.int .i64 3, .int .i64 2] : Array Value) 3; have h := h.alloc (.cells (#[.slice (some ⟨w11.heap.size, 0, none⟩) 2 2] : Array Value) 34); simpa using h)))
  go_wp2_with fail
  refine (sameM_any _ (w11.heap.size + 1 + 1) _ _ _ _ _ HM11.out HN11.out).mono ?_
  rintro e w12 ⟨rfl, hd⟩
  have hb := hd.below (w11.heap.size + 1 + 1)
  clear hd
  rw [show sameM [[3, 2]] [[3, 2]] = true from by decide]
  have HB12 : Hid (Below w.heap.size w w12) := Lib.hid (HT11.out.trans (hb.mono (by have := HT11.out.size; simp only [World.size_alloc] at this ⊢; omega)))
  have HS12 : Hid (Below w11.heap.size w11 w12) := Lib.hid (HQ11.out.trans (hb.mono (by have := HQ11.out.size; simp only [World.size_alloc] at this ⊢; omega)))
  clear hb
  have HT12 : Hid (Below w.heap.size w (((w12.alloc (Obj.cells #[.int .i64 2, .int .i64 3] 3)).alloc (Obj.cells #[.int .i64 3, .int .i64 2] 3)).alloc (Obj.cells #[.slice (some ⟨w12.heap.size, 0, none⟩) 2 2, .slice (some ⟨w12.heap.size + 1, 0, none⟩) 2 2] 34))) := Lib.hid ((((HB12.out.alloc (by have := HB12.out.size; simp; try omega) _).alloc (by have := HB12.out.size; simp; try omega) _).alloc (by have := HB12.out.size; simp; try omega) _))
  have HQ12 : Hid (Below w12.heap.size w12 (((w12.alloc (Obj.cells #[.int .i64 2, .int .i64 3] 3)).alloc (Obj.cells #[.int .i64 3, .int .i64 2] 3)).alloc (Obj.cells #[.slice (some ⟨w12.heap.size, 0, none⟩) 2 2, .slice (some ⟨w12.heap.size + 1, 0, none⟩) 2 2] 34))) := Lib.hid (((((Below.refl w12.heap.size w12).alloc (by simp; try omega) _).alloc (by simp; try omega) _).alloc (by simp; try omega) _))
  have HM12 := Lib.hid (((HO4.out.below (((((((HS5.out.trans (HS6.out.mono HS5.out.size)).trans (HS7.out.mono (HS5.out.trans (HS6.out.mono HS5.out.size)).size)).trans (HS8.out.mono ((HS5.out.trans (HS6.out.mono HS5.out.size)).trans (HS7.out.mono (HS5.out.trans (HS6.out.mono HS5.out.size)).size)).size)).trans (HS9.out.mono (((HS5.out.trans (HS6.out.mono HS5.out.size)).trans (HS7.out.mono (HS5.out.trans (HS6.out.mono HS5.out.size)).size)).trans (HS8.out.mono ((HS5.out.trans (HS6.out.mono HS5.out.size)).trans (HS7.out.mono (HS5.out.trans (HS6.out.mono HS5.out.size)).size)).size)).size)).trans (HS10.out.mono ((((HS5.out.trans (HS6.out.mono HS5.out.size)).trans (HS7.out.mono (HS5.out.trans (HS6.out.mono HS5.out.size)).size)).trans (HS8.out.mono ((HS5.out.trans (HS6.out.mono HS5.out.size)).trans (HS7.out.mono (HS5.out.trans (HS6.out.mono HS5.out.size)).size)).size)).trans (HS9.out.mono (((HS5.out.trans (HS6.out.mono HS5.out.size)).trans (HS7.out.mono (HS5.out.trans (HS6.out.mono HS5.out.size)).size)).trans (HS8.out.mono ((HS5.out.trans (HS6.out.mono HS5.out.size)).trans (HS7.out.mono (HS5.out.trans (HS6.out.mono HS5.out.size)).size)).size)).size)).size)).trans (HS11.out.mono (((((HS5.out.trans (HS6.out.mono HS5.out.size)).trans (HS7.out.mono (HS5.out.trans (HS6.out.mono HS5.out.size)).size)).trans (HS8.out.mono ((HS5.out.trans (HS6.out.mono HS5.out.size)).trans (HS7.out.mono (HS5.out.trans (HS6.out.mono HS5.out.size)).size)).size)).trans (HS9.out.mono (((HS5.out.trans (HS6.out.mono HS5.out.size)).trans (HS7.out.mono (HS5.out.trans (HS6.out.mono HS5.out.size)).size)).trans (HS8.out.mono ((HS5.out.trans (HS6.out.mono HS5.out.size)).trans (HS7.out.mono (HS5.out.trans (HS6.out.mono HS5.out.size)).size)).size)).size)).trans (HS10.out.mono ((((HS5.out.trans (HS6.out.mono HS5.out.size)).trans (HS7.out.mono (HS5.out.trans (HS6.out.mono HS5.out.size)).size)).trans (HS8.out.mono ((HS5.out.trans (HS6.out.mono HS5.out.size)).trans (HS7.out.mono (HS5.out.trans (HS6.out.mono HS5.out.size)).size)).size)).trans (HS9.out.mono (((HS5.out.trans (HS6.out.mono HS5.out.size)).trans (HS7.out.mono (HS5.out.trans (HS6.out.mono HS5.out.size)).size)).trans (HS8.out.mono ((HS5.out.trans (HS6.out.mono HS5.out.size)).trans (HS7.out.mono (HS5.out.trans (HS6.out.mono HS5.out.size)).size)).size)).size)).size)).size)).trans (HS12.out.mono ((((((HS5.out.trans (HS6.out.mono HS5.out.size)).trans (HS7.out.mono (HS5.out.trans (HS6.out.mono HS5.out.size)).size)).trans (HS8.out.mono ((HS5.out.trans (HS6.out.mono HS5.out.size)).trans (HS7.out.mono (HS5.out.trans (HS6.out.mono HS5.out.size)).size)).size)).trans (HS9.out.mono (((HS5.out.trans (HS6.out.mono HS5.out.size)).trans (HS7.out.mono (HS5.out.trans (HS6.out.mono HS5.out.size)).size)).trans (HS8.out.mono ((HS5.out.trans (HS6.out.mono HS5.out.size)).trans (HS7.out.mono (HS5.out.trans (HS6.out.mono HS5.out.size)).size)).size)).size)).trans (HS10.out.mono ((((HS5.out.trans (HS6.out.mono HS5.out.size)).trans (HS7.out.mono (HS5.out.trans (HS6.out.mono HS5.out.size)).size)).trans (HS8.out.mono ((HS5.out.trans (HS6.out.mono HS5.out.size)).trans (HS7.out.mono (HS5.out.trans (HS6.out.mono HS5.out.size)).size)).size)).trans (HS9.out.mono (((HS5.out.trans (HS6.out.mono HS5.out.size)).trans (HS7.out.mono (HS5.out.trans (HS6.out.mono HS5.out.size)).size)).trans (HS8.out.mono ((HS5.out.trans (HS6.out.mono HS5.out.size)).trans (HS7.out.mono (HS5.out.trans (HS6.out.mono HS5.out.size)).size)).size)).size)).size)).trans (HS11.out.mono (((((HS5.out.trans (HS6.out.mono HS5.out.size)).trans (HS7.out.mono (HS5.out.trans (HS6.out.mono HS5.out.size)).size)).trans (HS8.out.mono ((HS5.out.trans (HS6.out.mono HS5.out.size)).trans (HS7.out.mono (HS5.out.trans (HS6.out.mono HS5.out.size)).size)).size)).trans (HS9.out.mono (((HS5.out.trans (HS6.out.mono HS5.out.size)).trans (HS7.out.mono (HS5.out.trans (HS6.out.mono HS5.out.size)).size)).trans (HS8.out.mono ((HS5.out.trans (HS6.out.mono HS5.out.size)).trans (HS7.out.mono (HS5.out.trans (HS6.out.mono HS5.out.size)).size)).size)).size)).trans (HS10.out.mono ((((HS5.out.trans (HS6.out.mono HS5.out.size)).trans (HS7.out.mono (HS5.out.trans (HS6.out.mono HS5.out.size)).size)).trans (HS8.out.mono ((HS5.out.trans (HS6.out.mono HS5.out.size)).trans (HS7.out.mono (HS5.out.trans (HS6.out.mono HS5.out.size)).size)).size)).trans (HS9.out.mono (((HS5.out.trans (HS6.out.mono HS5.out.size)).trans (HS7.out.mono (HS5.out.trans (HS6.out.mono HS5.out.size)).size)).trans (HS8.out.mono ((HS5.out.trans (HS6.out.mono HS5.out.size)).trans (HS7.out.mono (HS5.out.trans (HS6.out.mono HS5.out.size)).size)).size)).size)).size)).size)).size)) (Nat.le_refl _)).mono (((((((HS5.out.trans (HS6.out.mono HS5.out.size)).trans (HS7.out.mono (HS5.out.trans (HS6.out.mono HS5.out.size)).size)).trans (HS8.out.mono ((HS5.out.trans (HS6.out.mono HS5.out.size)).trans (HS7.out.mono (HS5.out.trans (HS6.out.mono HS5.out.size)).size)).size)).trans (HS9.out.mono (((HS5.out.trans (HS6.out.mono HS5.out.size)).trans (HS7.out.mono (HS5.out.trans (HS6.out.mono HS5.out.size)).size)).trans (HS8.out.mono ((HS5.out.trans (HS6.out.mono HS5.out.size)).trans (HS7.out.mono (HS5.out.trans (HS6.out.mono HS5.out.size)).size)).size)).size)).trans (HS10.out.mono ((((HS5.out.trans (HS6.out.mono HS5.out.size)).trans (HS7.out.mono (HS5.out.trans (HS6.out.mono HS5.out.size)).size)).trans (HS8.out.mono ((HS5.out.trans (HS6.out.mono HS5.out.size)).trans (HS7.out.mono (HS5.out.trans (HS6.out.mono HS5.out.size)).size)).size)).trans (HS9.out.mono (((HS5.out.trans (HS6.out.mono HS5.out.size)).trans (HS7.out.mono (HS5.out.trans (HS6.out.mono HS5.out.size)).size)).trans (HS8.out.mono ((HS5.out.trans (HS6.out.mono HS5.out.size)).trans (HS7.out.mono (HS5.out.trans (HS6.out.mono HS5.out.size)).size)).size)).size)).size)).trans (HS11.out.mono (((((HS5.out.trans (HS6.out.mono HS5.out.size)).trans (HS7.out.mono (HS5.out.trans (HS6.out.mono HS5.out.size)).size)).trans (HS8.out.mono ((HS5.out.trans (HS6.out.mono HS5.out.size)).trans (HS7.out.mono (HS5.out.trans (HS6.out.mono HS5.out.size)).size)).size)).trans (HS9.out.mono (((HS5.out.trans (HS6.out.mono HS5.out.size)).trans (HS7.out.mono (HS5.out.trans (HS6.out.mono HS5.out.size)).size)).trans (HS8.out.mono ((HS5.out.trans (HS6.out.mono HS5.out.size)).trans (HS7.out.mono (HS5.out.trans (HS6.out.mono HS5.out.size)).size)).size)).size)).trans (HS10.out.mono ((((HS5.out.trans (HS6.out.mono HS5.out.size)).trans (HS7.out.mono (HS5.out.trans (HS6.out.mono HS5.out.size)).size)).trans (HS8.out.mono ((HS5.out.trans (HS6.out.mono HS5.out.size)).trans (HS7.out.mono (HS5.out.trans (HS6.out.mono HS5.out.size)).size)).size)).trans (HS9.out.mono (((HS5.out.trans (HS6.out.mono HS5.out.size)).trans (HS7.out.mono (HS5.out.trans (HS6.out.mono HS5.out.size)).size)).trans (HS8.out.mono ((HS5.out.trans (HS6.out.mono HS5.out.size)).trans (HS7.out.mono (HS5.out.trans (HS6.out.mono HS5.out.size)).size)).size)).size)).size)).size)).trans (HS12.out.mono ((((((HS5.out.trans (HS6.out.mono HS5.out.size)).trans (HS7.out.mono (HS5.out.trans (HS6.out.mono HS5.out.size)).size)).trans (HS8.out.mono ((HS5.out.trans (HS6.out.mono HS5.out.size)).trans (HS7.out.mono (HS5.out.trans (HS6.out.mono HS5.out.size)).size)).size)).trans (HS9.out.mono (((HS5.out.trans (HS6.out.mono HS5.out.size)).trans (HS7.out.mono (HS5.out.trans (HS6.out.mono HS5.out.size)).size)).trans (HS8.out.mono ((HS5.out.trans (HS6.out.mono HS5.out.size)).trans (HS7.out.mono (HS5.out.trans (HS6.out.mono HS5.out.size)).size)).size)).size)).trans (HS10.out.mono ((((HS5.out.trans (HS6.out.mono HS5.out.size)).trans (HS7.out.mono (HS5.out.trans (HS6.out.mono HS5.out.size)).size)).trans (HS8.out.mono ((HS5.out.trans (HS6.out.mono HS5.out.size)).trans (HS7.out.mono (HS5.out.trans (HS6.out.mono HS5.out.size)).size)).size)).trans (HS9.out.mono (((HS5.out.trans (HS6.out.mono HS5.out.size)).trans (HS7.out.mono (HS5.out.trans (HS6.out.mono HS5.out.size)).size)).trans (HS8.out.mono ((HS5.out.trans (HS6.out.mono HS5.out.size)).trans (HS7.out.mono (HS5.out.trans (HS6.out.mono HS5.out.size)).size)).size)).size)).size)).trans (HS11.out.mono (((((HS5.out.trans (HS6.out.mono HS5.out.size)).trans (HS7.out.mono (HS5.out.trans (HS6.out.mono HS5.out.size)).size)).trans (HS8.out.mono ((HS5.out.trans (HS6.out.mono HS5.out.size)).trans (HS7.out.mono (HS5.out.trans (HS6.out.mono HS5.out.size)).size)).size)).trans (HS9.out.mono (((HS5.out.trans (HS6.out.mono HS5.out.size)).trans (HS7.out.mono (HS5.out.trans (HS6.out.mono HS5.out.size)).size)).trans (HS8.out.mono ((HS5.out.trans (HS6.out.mono HS5.out.size)).trans (HS7.out.mono (HS5.out.trans (HS6.out.mono HS5.out.size)).size)).size)).size)).trans (HS10.out.mono ((((HS5.out.trans (HS6.out.mono HS5.out.size)).trans (HS7.out.mono (HS5.out.trans (HS6.out.mono HS5.out.size)).size)).trans (HS8.out.mono ((HS5.out.trans (HS6.out.mono HS5.out.size)).trans (HS7.out.mono (HS5.out.trans (HS6.out.mono HS5.out.size)).size)).size)).trans (HS9.out.mono (((HS5.out.trans (HS6.out.mono HS5.out.size)).trans (HS7.out.mono (HS5.out.trans (HS6.out.mono HS5.out.size)).size)).trans (HS8.out.mono ((HS5.out.trans (HS6.out.mono HS5.out.size)).trans (HS7.out.mono (HS5.out.trans (HS6.out.mono HS5.out.size)).size)).size)).size)).size)).size)).size)).size).below HQ12.out (Nat.le_refl _))
  have HN12 : Hid (IsMat (w12.heap.size + 1 + 1 + 1) (((w12.alloc (Obj.cells #[.int .i64 2, .int .i64 3] 3)).alloc (Obj.cells #[.int .i64 3, .int .i64 2] 3)).alloc (Obj.cells #[.slice (some ⟨w12.heap.size, 0, none⟩) 2 2, .slice (some ⟨w12.heap.size + 1, 0, none⟩) 2 2] 34)) (.slice (some ⟨w12.heap.size + 1 + 1, 0, none⟩) 2 2) [[2, 3], [3, 2]]) := Lib.hid (litMat2 (by have h := Box.new ((w12.alloc (Obj.cells #[.int .i64 2, .int .i64 3] 3)).alloc (Obj.cells #[.int .i64 3, .int .i64 2] 3)) (#[.slice (some ⟨w12.heap.size, 0, none⟩) 2 2, .slice (some ⟨w12.heap.size + 1, 0, none⟩) 2 2] : Array Value) 34; simpa using h) (by omega) (litInts (b := w12.heap.size) rfl (by decide) (by omega) (by simp [I64]) (by omega) (by have h := Box.new w12 (#[.int .i64 2, .int .i64 3] : Array Value) 3; have h := h.alloc (.cells (#[.int .i64 3, .int .i64 2] : Array Value) 3); have h := h.alloc (.cells (#[.slice (some ⟨w12.heap.size, 0, none⟩) 2 2, .slice (some ⟨w12.heap.size + 1, 0, none⟩) 2 2] : Array Value) 34); simpa using h)) (litInts (b := w12.heap.size + 1) rfl (by decide) (by omega) (by simp [I64]) (by omega) (by have h := Box.new (w12.alloc (Obj.cells #[.int .i64 2, .int .i64 3] 3)) (#[.int .i64 3, .int .i64 2] : Array Value) 3; have h := h.alloc (.cells (#[.slice (some ⟨w12.heap.size, 0, none⟩) 2 2, .slice (some ⟨w12.heap.size + 1, 0, none⟩) 2 2] : Array Value) 34); simpa using h)))
  go_wp2_with fail
  refine (sameM_any _ (w12.heap.size + 1 + 1 + 1) _ _ _ _ _ HM12.out HN12.out).mono ?_
  rintro e w13 ⟨rfl, hd⟩
  have hb := hd.below (w12.heap.size + 1 + 1 + 1)
  clear hd
  rw [show sameM [[2, 3], [3, 2]] [[2, 3], [3, 2]] = true from by decide]
  have HB13 : Hid (Below w.heap.size w w13) := Lib.hid (HT12.out.trans (hb.mono (by have := HT12.out.size; simp only [World.size_alloc] at this ⊢; omega)))
  have HS13 : Hid (Below w12.heap.size w12 w13) := Lib.hid (HQ12.out.trans (hb.mono (by have := HQ12.out.size; simp only [World.size_alloc] at this ⊢; omega)))
  clear hb
  have HT13 : Hid (Below w.heap.size w (((w13.alloc (Obj.cells #[.int .i64 3, .int .i64 1, .int .i64 4] 3)).alloc (Obj.cells #[.int .i64 4, .int .i64 1, .int .i64 3] 3)).alloc (Obj.cells #[.slice (some ⟨w13.heap.size, 0, none⟩) 3 3, .slice (some ⟨w13.heap.size + 1, 0, none⟩) 3 3] 34))) := Lib.hid ((((HB13.out.alloc (by have := HB13.out.size; simp; try omega) _).alloc (by have := HB13.out.size; simp; try omega) _).alloc (by have := HB13.out.size; simp; try omega) _))
  have HQ13 : Hid (Below w13.heap.size w13 (((w13.alloc (Obj.cells #[.int .i64 3, .int .i64 1, .int .i64 4] 3)).alloc (Obj.cells #[.int .i64 4, .int .i64 1, .int .i64 3] 3)).alloc (Obj.cells #[.slice (some ⟨w13.heap.size, 0, none⟩) 3 3, .slice (some ⟨w13.heap.size + 1, 0, none⟩) 3 3] 34))) := Lib.hid (((((Below.refl w13.heap.size w13).alloc (by simp; try omega) _).alloc (by simp; try omega) _).alloc (by simp; try omega) _))
  have HM13 := Lib.hid (((HO5.out.below (((((((HS6.out.trans (HS7.out.mono HS6.out.size)).trans (HS8.out.mono (HS6.out.trans (HS7.out.mono HS6.out.size)).size)).trans (HS9.out.mono ((HS6.out.trans (HS7.out.mono HS6.out.size)).trans (HS8.out.mono (HS6.out.trans (HS7.out.mono HS6.out.size)).size)).size)).trans (HS10.out.mono (((HS6.out.trans (HS7.out.mono HS6.out.size)).trans (HS8.out.mono (HS6.out.trans (HS7.out.mono HS6.out.size)).size)).trans (HS9.out.mono ((HS6.out.trans (HS7.out.mono HS6.out.size)).trans (HS8.out.mono (HS6.out.trans (HS7.out.mono HS6.out.size)).size)).size)).size)).trans (HS11.out.mono ((((HS6.out.trans (HS7.out.mono HS6.out.size)).trans (HS8.out.mono (HS6.out.trans (HS7.out.mono HS6.out.size)).size)).trans (HS9.out.mono ((HS6.out.trans (HS7.out.mono HS6.out.size)).trans (HS8.out.mono (HS6.out.trans (HS7.out.mono HS6.out.size)).size)).size)).trans (HS10.out.mono (((HS6.out.trans (HS7.out.mono HS6.out.size)).trans (HS8.out.mono (HS6.out.trans (HS7.out.mono HS6.out.size)).size)).trans (HS9.out.mono ((HS6.out.trans (HS7.out.mono HS6.out.size)).trans (HS8.out.mono (HS6.out.trans (HS7.out.mono HS6.out.size)).size)).size)).size)).size)).trans (HS12.out.mono (((((HS6.out.trans (HS7.out.mono HS6.out.size)).trans (HS8.out.mono (HS6.out.trans (HS7.out.mono HS6.out.size)).size)).trans (HS9.out.mono ((HS6.out.trans (HS7.out.mono HS6.out.size)).trans (HS8.out.mono (HS6.out.trans (HS7.out.mono HS6.out.size)).size)).size)).trans (HS10.out.mono (((HS6.out.trans (HS7.out.mono HS6.out.size)).trans (HS8.out.mono (HS6.out.trans (HS7.out.mono HS6.out.size)).size)).trans (HS9.out.mono ((HS6.out.trans (HS7.out.mono HS6.out.size)).trans (HS8.out.mono (HS6.out.trans (HS7.out.mono HS6.out.size)).size)).size)).size)).trans (HS11.out.mono ((((HS6.out.trans (HS7.out.mono HS6.out.size)).trans (HS8.out.mono (HS6.out.trans (HS7.out.mono HS6.out.size)).size)).trans (HS9.out.mono ((HS6.out.trans (HS7.out.mono HS6.out.size)).trans (HS8.out.mono (HS6.out.trans (HS7.out.mono HS6.out.size)).size)).size)).trans (HS10.out.mono (((HS6.out.trans (HS7.out.mono HS6.out.size)).trans (HS8.out.mono (HS6.out.trans (HS7.out.mono HS6.out.size)).size)).trans (HS9.out.mono ((HS6.out.trans (HS7.out.mono HS6.out.size)).trans (HS8.out.mono (HS6.out.trans (HS7.out.mono HS6.out.size)).size)).size)).size)).size)).size)).trans (HS13.out.mono ((((((HS6.out.trans (HS7.out.mono HS6.out.size)).trans (HS8.out.mono (HS6.out.trans (HS7.out.mono HS6.out.size)).size)).trans (HS9.out.mono ((HS6.out.trans (HS7.out.mono HS6.out.size)).trans (HS8.out.mono (HS6.out.trans (HS7.out.mono HS6.out.size)).size)).size)).trans (HS10.out.mono (((HS6.out.trans (HS7.out.mono HS6.out.size)).trans (HS8.out.mono (HS6.out.trans (HS7.out.mono HS6.out.size)).size)).trans (HS9.out.mono ((HS6.out.trans (HS7.out.mono HS6.out.size)).trans (HS8.out.mono (HS6.out.trans (HS7.out.mono HS6.out.size)).size)).size)).size)).trans (HS11.out.mono ((((HS6.out.trans (HS7.out.mono HS6.out.size)).trans (HS8.out.mono (HS6.out.trans (HS7.out.mono HS6.out.size)).size)).trans (HS9.out.mono ((HS6.out.trans (HS7.out.mono HS6.out.size)).trans (HS8.out.mono (HS6.out.trans (HS7.out.mono HS6.out.size)).size)).size)).trans (HS10.out.mono (((HS6.out.trans (HS7.out.mono HS6.out.size)).trans (HS8.out.mono (HS6.out.trans (HS7.out.mono HS6.out.size)).size)).trans (HS9.out.mono ((HS6.out.trans (HS7.out.mono HS6.out.size)).trans (HS8.out.mono (HS6.out.trans (HS7.out.mono HS6.out.size)).size)).size)).size)).size)).trans (HS12.out.mono (((((HS6.out.trans (HS7.out.mono HS6.out.size)).trans (HS8.out.mono (HS6.out.trans (HS7.out.mono HS6.out.size)).size)).trans (HS9.out.mono ((HS6.out.trans (HS7.out.mono HS6.out.size)).trans (HS8.out.mono (HS6.out.trans (HS7.out.mono HS6.out.size)).size)).size)).trans (HS10.out.mono (((HS6.out.trans (HS7.out.mono HS6.out.size)).trans (HS8.out.mono (HS6.out.trans (HS7.out.mono HS6.out.size)).size)).trans (HS9.out.mono ((HS6.out.trans (HS7.out.mono HS6.out.size)).trans (HS8.out.mono (HS6.out.trans (HS7.out.mono HS6.out.size)).size)).size)).size)).trans (HS11.out.mono ((((HS6.out.trans (HS7.out.mono HS6.out.size)).trans (HS8.out.mono (HS6.out.trans (HS7.out.mono HS6.out.size)).size)).trans (HS9.out.mono ((HS6.out.trans (HS7.out.mono HS6.out.size)).trans (HS8.out.mono (HS6.out.trans (HS7.out.mono HS6.out.size)).size)).size)).trans (HS10.out.mono (((HS6.out.trans (HS7.out.mono HS6.out.size)).trans (HS8.out.mono (HS6.out.trans (HS7.out.mono HS6.out.size)).size)).trans (HS9.out.mono ((HS6.out.trans (HS7.out.mono HS6.out.size)).trans (HS8.out.mono (HS6.out.trans (HS7.out.mono HS6.out.size)).size)).size)).size)).size)).size)).size)) (Nat.le_refl _)).mono (((((((HS6.out.trans (HS7.out.mono HS6.out.size)).trans (HS8.out.mono (HS6.out.trans (HS7.out.mono HS6.out.size)).size)).trans (HS9.out.mono ((HS6.out.trans (HS7.out.mono HS6.out.size)).trans (HS8.out.mono (HS6.out.trans (HS7.out.mono HS6.out.size)).size)).size)).trans (HS10.out.mono (((HS6.out.trans (HS7.out.mono HS6.out.size)).trans (HS8.out.mono (HS6.out.trans (HS7.out.mono HS6.out.size)).size)).trans (HS9.out.mono ((HS6.out.trans (HS7.out.mono HS6.out.size)).trans (HS8.out.mono (HS6.out.trans (HS7.out.mono HS6.out.size)).size)).size)).size)).trans (HS11.out.mono ((((HS6.out.trans (HS7.out.mono HS6.out.size)).trans (HS8.out.mono (HS6.out.trans (HS7.out.mono HS6.out.size)).size)).trans (HS9.out.mono ((HS6.out.trans (HS7.out.mono HS6.out.size)).trans (HS8.out.mono (HS6.out.trans (HS7.out.mono HS6.out.size)).size)).size)).trans (HS10.out.mono (((HS6.out.trans (HS7.out.mono HS6.out.size)).trans (HS8.out.mono (HS6.out.trans (HS7.out.mono HS6.out.size)).size)).trans (HS9.out.mono ((HS6.out.trans (HS7.out.mono HS6.out.size)).trans (HS8.out.mono (HS6.out.trans (HS7.out.mono HS6.out.size)).size)).size)).size)).size)).trans (HS12.out.mono (((((HS6.out.trans (HS7.out.mono HS6.out.size)).trans (HS8.out.mono (HS6.out.trans (HS7.out.mono HS6.out.size)).size)).trans (HS9.out.mono ((HS6.out.trans (HS7.out.mono HS6.out.size)).trans (HS8.out.mono (HS6.out.trans (HS7.out.mono HS6.out.size)).size)).size)).trans (HS10.out.mono (((HS6.out.trans (HS7.out.mono HS6.out.size)).trans (HS8.out.mono (HS6.out.trans (HS7.out.mono HS6.out.size)).size)).trans (HS9.out.mono ((HS6.out.trans (HS7.out.mono HS6.out.size)).trans (HS8.out.mono (HS6.out.trans (HS7.out.mono HS6.out.size)).size)).size)).size)).trans (HS11.out.mono ((((HS6.out.trans (HS7.out.mono HS6.out.size)).trans (HS8.out.mono (HS6.out.trans (HS7.out.mono HS6.out.size)).size)).trans (HS9.out.mono ((HS6.out.trans (HS7.out.mono HS6.out.size)).trans (HS8.out.mono (HS6.out.trans (HS7.out.mono HS6.out.size)).size)).size)).trans (HS10.out.mono (((HS6.out.trans (HS7.out.mono HS6.out.size)).trans (HS8.out.mono (HS6.out.trans (HS7.out.mono HS6.out.size)).size)).trans (HS9.out.mono ((HS6.out.trans (HS7.out.mono HS6.out.size)).trans (HS8.out.mono (HS6.out.trans (HS7.out.mono HS6.out.size)).size)).size)).size)).size)).size)).trans (HS13.out.mono ((((((HS6.out.trans (HS7.out.mono HS6.out.size)).trans (HS8.out.mono (HS6.out.trans (HS7.out.mono HS6.out.size)).size)).trans (HS9.out.mono ((HS6.out.trans (HS7.out.mono HS6.out.size)).trans (HS8.out.mono (HS6.out.trans (HS7.out.mono HS6.out.size)).size)).size)).trans (HS10.out.mono (((HS6.out.trans (HS7.out.mono HS6.out.size)).trans (HS8.out.mono (HS6.out.trans (HS7.out.mono HS6.out.size)).size)).trans (HS9.out.mono ((HS6.out.trans (HS7.out.mono HS6.out.size)).trans (HS8.out.mono (HS6.out.trans (HS7.out.mono HS6.out.size)).size)).size)).size)).trans (HS11.out.mono ((((HS6.out.trans (HS7.out.mono HS6.out.size)).trans (HS8.out.mono (HS6.out.trans (HS7.out.mono HS6.out.size)).size)).trans (HS9.out.mono ((HS6.out.trans (HS7.out.mono HS6.out.size)).trans (HS8.out.mono (HS6.out.trans (HS7.out.mono HS6.out.size)).size)).size)).trans (HS10.out.mono (((HS6.out.trans (HS7.out.mono HS6.out.size)).trans (HS8.out.mono (HS6.out.trans (HS7.out.mono HS6.out.size)).size)).trans (HS9.out.mono ((HS6.out.trans (HS7.out.mono HS6.out.size)).trans (HS8.out.mono (HS6.out.trans (HS7.out.mono HS6.out.size)).size)).size)).size)).size)).trans (HS12.out.mono (((((HS6.out.trans (HS7.out.mono HS6.out.size)).trans (HS8.out.mono (HS6.out.trans (HS7.out.mono HS6.out.size)).size)).trans (HS9.out.mono ((HS6.out.trans (HS7.out.mono HS6.out.size)).trans (HS8.out.mono (HS6.out.trans (HS7.out.mono HS6.out.size)).size)).size)).trans (HS10.out.mono (((HS6.out.trans (HS7.out.mono HS6.out.size)).trans (HS8.out.mono (HS6.out.trans (HS7.out.mono HS6.out.size)).size)).trans (HS9.out.mono ((HS6.out.trans (HS7.out.mono HS6.out.size)).trans (HS8.out.mono (HS6.out.trans (HS7.out.mono HS6.out.size)).size)).size)).size)).trans (HS11.out.mono ((((HS6.out.trans (HS7.out.mono HS6.out.size)).trans (HS8.out.mono (HS6.out.trans (HS7.out.mono HS6.out.size)).size)).trans (HS9.out.mono ((HS6.out.trans (HS7.out.mono HS6.out.size)).trans (HS8.out.mono (HS6.out.trans (HS7.out.mono HS6.out.size)).size)).size)).trans (HS10.out.mono (((HS6.out.trans (HS7.out.mono HS6.out.size)).trans (HS8.out.mono (HS6.out.trans (HS7.out.mono HS6.out.size)).size)).trans (HS9.out.mono ((HS6.out.trans (HS7.out.mono HS6.out.size)).trans (HS8.out.mono (HS6.out.trans (HS7.out.mono HS6.out.size)).size)).size)).size)).size)).size)).size)).size).below HQ13.out (Nat.le_refl _))
  have HN13 : Hid (IsMat (w13.heap.size + 1 + 1 + 1) (((w13.alloc (Obj.cells #[.int .i64 3, .int .i64 1, .int .i64 4] 3)).alloc (Obj.cells #[.int .i64 4, .int .i64 1, .int .i64 3] 3)).alloc (Obj.cells #[.slice (some ⟨w13.heap.size, 0, none⟩) 3 3, .slice (some ⟨w13.heap.size + 1, 0, none⟩) 3 3] 34)) (.slice (some ⟨w13.heap.size + 1 + 1, 0, none⟩) 2 2) [[3, 1, 4], [4, 1, 3]]) := Lib.hid (litMat2 (by have h := Box.new ((w13.alloc (Obj.cells #[.int .i64 3, .int .i64 1, .int .i64 4] 3)).alloc (Obj.cells #[.int .i64 4, .int .i64 1, .int .i64 3] 3)) (#[.slice (some ⟨w13.heap.size, 0, none⟩) 3 3, .slice (some ⟨w13.heap.size + 1, 0, none⟩) 3 3] : Array Value) 34; simpa using h) (by omega) (litInts (b := w13.heap.size) rfl (by decide) (by omega) (by simp [I64]) (by omega) (by have h := Box.new w13 (#[.int .i64 3, .int .i64 1, .int .i64 4] : Array Value) 3; have h := h.alloc (.cells (#[.int .i64 4, .int .i64 1, .int .i64 3] : Array Value) 3); have h := h.alloc (.cells (#[.slice (some ⟨w13.heap.size, 0, none⟩) 3 3, .slice (some ⟨w13.heap.size + 1, 0, none⟩) 3 3] : Array Value) 34); simpa using h)) (litInts (b := w13.heap.size + 1) rfl (by decide) (by omega) (by simp [I64]) (by omega) (by have h := Box.new (w13.alloc (Obj.cells #[.int .i64 3, .int .i64 1, .int .i64 4] 3)) (#[.int .i64 4, .int .i64 1, .int .i64 3] : Array Value) 3; have h := h.alloc (.cells (#[.slice (some ⟨w13.heap.size, 0, none⟩) 3 3, .slice (some ⟨w13.heap.size + 1, 0, none⟩) 3 3] : Array Value) 34); simpa using h)))
  go_wp2_with fail
  refine (sameM_any _ (w13.heap.size + 1 + 1 + 1) _ _ _ _ _ HM13.out HN13.out).mono ?_
  rintro e w14 ⟨rfl, hd⟩
  have hb := hd.below (w13.heap.size + 1 + 1 + 1)
  clear hd
  rw [show sameM [[3, 1, 4], [4, 1, 3]] [[3, 1, 4], [4, 1, 3]] = true from by decide]
  have HB14 : Hid (Below w.heap.size w w14) := Lib.hid (HT13.out.trans (hb.mono (by have := HT13.out.size; simp only [World.size_alloc] at this ⊢; omega)))
  have HS14 : Hid (Below w13.heap.size w13 w14) := Lib.hid (HQ13.out.trans (hb.mono (by have := HQ13.out.size; simp only [World.size_alloc] at this ⊢; omega)))
  clear hb
  go_wp2
  go_ret
  exact ⟨rfl, HB14.out⟩

end Go.Proofs.Ythekefnocphcdaa

set_option linter.unusedVariables false

set_option linter.unusedSimpArgs false

namespace Go.Proofs.Ythekefnocphcdaa

open Go.RowKit

set_option maxHeartbeats 4000000 in
set_option maxRecDepth 100000 in
/-- CountSpec -/
theorem countSpec_any (B : Nat) (w : World) (vs vl : Value) (f : Flow) (hf : IsFlow B w vs vl f) (hB : B ≤ w.heap.size) :
    Calls Try.prog 3 #[.agg #[vs, vl]] w fun e w' => e = .returned (.bool true) ∧ Below w.heap.size w w' := by
  have HF := Lib.hid hf
  obtain ⟨rfl, ⟨hs1, hs2⟩, hl⟩ := hf
  obtain ⟨b, off, cap, ⟨a, rfl, hcap, hmax, ha⟩, hlen, hc⟩ := hl
  clear hc ha
  go_enter Try.func3, Try.ntmps3
  go_wp2_with fail
  refine (sane27_any _).mono ?_
  rintro e w1 ⟨rfl, hb1⟩
  have HX1 := Lib.hid ((Box.new w #[.int .i64 f.senders, .slice a f.lots.length cap] 24).ext hb1)
  have HW1 : Hid (Below w.heap.size w w1) := Lib.hid ((box_below' w _).trans (hb1.mono (by simp)))
  obtain ⟨z1, r1⟩ := HX1.out
  clear hb1
  go_wp2_with fail
  refine (few27_any B w1 _ _ f (HF.out.below HW1.out hB) (Nat.le_trans hB HW1.out.size)).mono ?_
  rintro e w2 ⟨rfl, hb2⟩
  have HX2 := Lib.hid (HX1.out.ext hb2)
  have HW2 : Hid (Below w.heap.size w w2) := Lib.hid (HW1.out.trans (hb2.mono HW1.out.size))
  clear hb2 z1 r1
  obtain ⟨ee, hee⟩ : ∃ x, allE f = x := ⟨_, rfl⟩
  obtain ⟨cc, hcc⟩ : ∃ x, countR f = x := ⟨_, rfl⟩
  have he1 : (ee == ee) = true := by simp
  have he2 : (cc == cc) = true := by simp
  cases hfew : few27 f
  · clear hfew
    go_wp2
    go_ret
    exact ⟨rfl, HW2.out⟩
  · clear hfew
    obtain ⟨z2, r2⟩ := HX2.out
    go_wp2_with fail
    refine (all27_any B w2 _ _ f (HF.out.below HW2.out hB) (Nat.le_trans hB HW2.out.size)).mono ?_
    rintro e w3 ⟨v3, rfl, ho3, hb3⟩
    have HX3 := Lib.hid (HX2.out.ext hb3)
    have HW3 : Hid (Below w.heap.size w w3) := Lib.hid (HW2.out.trans (hb3.mono HW2.out.size))
    rw [hee]
    obtain ⟨a3, c3, rfl, _⟩ := ho3.form
    have HO3 := Lib.hid ho3.isMat
    clear ho3
    clear hb3 z2 r2
    obtain ⟨z3, r3⟩ := HX3.out
    go_wp2_with fail
    refine (rall27_any B w3 _ _ f (HF.out.below HW3.out hB) (Nat.le_trans hB HW3.out.size)).mono ?_
    rintro e w4 ⟨v4, rfl, ho4, hb4⟩
    have HX4 := Lib.hid (HX3.out.ext hb4)
    have HW4 : Hid (Below w.heap.size w w4) := Lib.hid (HW3.out.trans (hb4.mono HW3.out.size))
    rw [hee]
    obtain ⟨a4, c4, rfl, _⟩ := ho4.form
    have HO4 := Lib.hid ho4.isMat
    have HZ3 := Lib.hid hb4
    clear ho4
    clear hb4 z3 r3
    obtain ⟨z4, r4⟩ := HX4.out
    go_wp2_with fail
    refine (ccount_any B w4 _ _ f (HF.out.below HW4.out hB) (Nat.le_trans hB HW4.out.size)).mono ?_
    rintro e w5 ⟨rfl, hb5⟩
    have HX5 := Lib.hid (HX4.out.ext hb5)
    have HW5 : Hid (Below w.heap.size w w5) := Lib.hid (HW4.out.trans (hb5.mono HW4.out.size))
    rw [hee, hcc]
    have HK5 := Lib.hid hb5
    clear hb5 z4 r4
    obtain ⟨z5, r5⟩ := HX5.out
    go_wp2_with fail
    refine (rcount27_any B w5 _ _ f (HF.out.below HW5.out hB) (Nat.le_trans hB HW5.out.size)).mono ?_
    rintro e w6 ⟨rfl, hb6⟩
    have HX6 := Lib.hid (HX5.out.ext hb6)
    have HW6 : Hid (Below w.heap.size w w6) := Lib.hid (HW5.out.trans (hb6.mono HW5.out.size))
    rw [hee, hcc]
    have HK6 := Lib.hid (HK5.out.trans (hb6.mono HK5.out.size))
    clear hb6 z5 r5
    go_wp2_with fail
    refine (sameM_any _ _ _ _ _ _ _ (HO3.out.below (HZ3.out.trans (HK6.out.mono HZ3.out.size)) (Nat.le_refl _)) (HO4.out.below HK6.out (Nat.le_refl _))).mono ?_
    rintro e w7 ⟨rfl, hd⟩
    have HD := Lib.hid hd
    clear hd
    rw [show sameM (allR f) (allR f) = true from decide_eq_true rfl]
    go_wp2
    go_ret
    exact ⟨rfl, HW6.out.trans (HD.out.below _)⟩

set_option maxHeartbeats 4000000 in
set_option maxRecDepth 100000 in
/-- CountPossibleSpec -/
theorem countPossibleSpec_any (B : Nat) (w : World) (vs vl va : Value) (f : Flow) (xs : List Int) (hf : IsFlow B w vs vl f) (hx : IsInts B w va xs) (hB : B ≤ w.heap.size) :
    Calls Try.prog 4 #[.agg #[vs, vl], va] w fun e w' => e = .returned (.bool true) ∧ Below w.heap.size w w' := by
  have HF := Lib.hid hf
  obtain ⟨rfl, ⟨hs1, hs2⟩, hl⟩ := hf
  obtain ⟨b, off, cap, ⟨a, rfl, hcap, hmax, ha⟩, hlen, hc⟩ := hl
  clear hc ha
  have HXX := Lib.hid hx
  obtain ⟨ax, cx, rfl⟩ := hx.form
  clear hx
  go_enter Try.func4, Try.ntmps4
  go_wp2_with fail
  refine (sane27_any _).mono ?_
  rintro e w1 ⟨rfl, hb1⟩
  have HX1 := Lib.hid ((Box.new w #[.int .i64 f.senders, .slice a f.lots.length cap] 24).ext hb1)
  have HW1 : Hid (Below w.heap.size w w1) := Lib.hid ((box_below' w _).trans (hb1.mono (by simp)))
  obtain ⟨z1, r1⟩ := HX1.out
  clear hb1
  go_wp2_with fail
  refine (few27_any B w1 _ _ f (HF.out.below HW1.out hB) (Nat.le_trans hB HW1.out.size)).mono ?_
  rintro e w2 ⟨rfl, hb2⟩
  have HX2 := Lib.hid (HX1.out.ext hb2)
  have HW2 : Hid (Below w.heap.size w w2) := Lib.hid (HW1.out.trans (hb2.mono HW1.out.size))
  clear hb2 z1 r1
  obtain ⟨ee, hee⟩ : ∃ x, allE f = x := ⟨_, rfl⟩
  obtain ⟨pp, hpp⟩ : ∃ x, possB f xs = x := ⟨_, rfl⟩
  have he1 : (ee == ee) = true := by simp
  have he2 : (pp == pp) = true := by simp
  cases hfew : few27 f
  · clear hfew
    go_wp2
    go_ret
    exact ⟨rfl, HW2.out⟩
  · clear hfew
    by_cases h40 : 40 < xs.length
    · have h40' : decide (40 < (xs.length : Int)) = true := decide_eq_true (by omega)
      go_wp2
      go_ret
      exact ⟨rfl, HW2.out⟩
    · have h40' : decide (40 < (xs.length : Int)) = false := decide_eq_false (by omega)
      obtain ⟨z2, r2⟩ := HX2.out
      go_wp2_with fail
      refine (cposs_any B w2 _ _ _ f xs (HF.out.below HW2.out hB) (HXX.out.below HW2.out hB) (Nat.le_trans hB HW2.out.size)).mono ?_
      rintro e w3 ⟨rfl, hb3⟩
      have HX3 := Lib.hid (HX2.out.ext hb3)
      have HW3 : Hid (Below w.heap.size w w3) := Lib.hid (HW2.out.trans (hb3.mono HW2.out.size))
      rw [hee, hpp]
      clear hb3 z2 r2
      obtain ⟨z3, r3⟩ := HX3.out
      go_wp2_with fail
      refine (rposs27_any B w3 _ _ _ f xs (HF.out.below HW3.out hB) (HXX.out.below HW3.out hB) (Nat.le_trans hB HW3.out.size)).mono ?_
      rintro e w4 ⟨rfl, hb4⟩
      have HX4 := Lib.hid (HX3.out.ext hb4)
      have HW4 : Hid (Below w.heap.size w w4) := Lib.hid (HW3.out.trans (hb4.mono HW3.out.size))
      rw [hee, hpp]
      clear hb4 z3 r3
      go_wp2
      go_ret
      exact ⟨rfl, HW4.out⟩

end Go.Proofs.Ythekefnocphcdaa

set_option linter.unusedVariables false

set_option linter.unusedSimpArgs false

namespace Go.Proofs.Ythekefnocphcdaa

/-- the different values at place s of the first k rows -/
def gathTo (L : List (List Int)) (s : Nat) : Nat → List Int
  | 0 => []
  | k + 1 => if hasB (gathTo L s k) (nth (rowAt L k) s) then gathTo L s k else gathTo L s k ++ [nth (rowAt L k) s]

theorem gath_len (L : List (List Int)) (s : Nat) : ∀ k, (gathTo L s k).length ≤ k
  | 0 => Nat.le_refl _
  | k + 1 => by
    have ih := gath_len L s k
    unfold gathTo
    split
    · omega
    · simp; omega

theorem gath_mem (L : List (List Int)) (s : Nat) : ∀ k x, x ∈ gathTo L s k ↔ ∃ j, j < k ∧ nth (rowAt L j) s = x
  | 0, x => by simp [gathTo]
  | k + 1, x => by
    have ih := gath_mem L s k
    unfold gathTo
    split
    · rename_i h
      rw [ih]
      constructor
      · rintro ⟨j, a, b⟩; exact ⟨j, by omega, b⟩
      · rintro ⟨j, a, b⟩
        by_cases e : j = k
        · subst e
          rw [← b]
          exact (ih _).1 (hasB_mem.1 h)
        · exact ⟨j, by omega, b⟩
    · rw [List.mem_append, ih, List.mem_singleton]
      constructor
      · rintro (⟨j, a, b⟩ | rfl)
        · exact ⟨j, by omega, b⟩
        · exact ⟨k, by omega, rfl⟩
      · rintro ⟨j, a, b⟩
        by_cases e : j = k
        · subst e; exact .inr b.symm
        · exact .inl ⟨j, by omega, b⟩

theorem gath_nodup (L : List (List Int)) (s : Nat) : ∀ k, (gathTo L s k).Nodup
  | 0 => List.nodup_nil
  | k + 1 => by
    have ih := gath_nodup L s k
    unfold gathTo
    split
    · exact ih
    · rename_i h
      rw [List.nodup_append]
      refine ⟨ih, by simp, fun a ha b hb => ?_⟩
      obtain rfl := List.mem_singleton.1 hb
      rintro rfl
      exact h (hasB_mem.2 ha)

theorem row_mem {L : List (List Int)} {j : Nat} (h : j < L.length) : rowAt L j ∈ L := by
  unfold rowAt
  rw [List.getD_eq_getElem?_getD, List.getElem?_eq_getElem h]
  exact List.getElem_mem h

theorem mem_row {L : List (List Int)} {p : List Int} (h : p ∈ L) : ∃ j, j < L.length ∧ rowAt L j = p := by
  obtain ⟨j, hj, e⟩ := List.getElem_of_mem h
  refine ⟨j, hj, ?_⟩
  unfold rowAt
  rw [List.getD_eq_getElem?_getD, List.getElem?_eq_getElem hj, ← e]
  rfl

/-- the crowd of a sender is the number of its different ends in all assignments -/
theorem crowd_counted {f : Flow} (hc : checkE f = 0) {s : Nat} (hs : (s : Int) < f.senders) : (reachL f s).length = (gathTo (asgL f) s (asgL f).length).length := by
  refine Nat.le_antisymm (nodup_len (reachL_nodup f s) fun x hx => ?_) (nodup_len (gath_nodup _ _ _) fun x hx => ?_)
  · obtain ⟨p, hp, e⟩ := reach_asg hc hs hx
    obtain ⟨j, hj, ej⟩ := mem_row hp
    exact (gath_mem _ _ _ _).2 ⟨j, hj, by rw [ej]; exact e⟩
  · obtain ⟨j, hj, e⟩ := (gath_mem _ _ _ _).1 hx
    rw [← e]
    exact asg_reach hc (row_mem hj) hs

end Go.Proofs.Ythekefnocphcdaa

set_option linter.unusedVariables false

set_option linter.unusedSimpArgs false

namespace Go.Proofs.Ythekefnocphcdaa

theorem ends_len {f : Flow} (hc : checkE f = 0) : ((endsL f).length : Int) = f.senders := by
  obtain ⟨h0, _, _, _, hl⟩ := checkE_ok hc
  obtain ⟨p, hp⟩ : ∃ p, p ∈ asgL f := by
    cases h : asgL f with
    | nil => exact absurd h (asg_ne h0 _ hl)
    | cons a t => exact ⟨a, List.mem_cons_self ..⟩
  have hlen := asg_len (f := f) _ p hp
  have hA := asg_all h0 _ hl p hp
  have e : (endsL f).length = p.length := Nat.le_antisymm
    (nodup_len (endsTo_nodup f _) fun x hx => (hA.2 x).2 (mem_endsL.1 hx))
    (nodup_len hA.1 fun x hx => mem_endsL.2 ((hA.2 x).1 hx))
  omega

theorem asg_has {f : Flow} (hc : checkE f = 0) {j i : Nat} (hj : j < (asgL f).length) (hi : i < (endsL f).length) : hasB (rowAt (asgL f) j) (nth (endsL f) i) = true := by
  obtain ⟨h0, _, _, _, hl⟩ := checkE_ok hc
  exact hasB_mem.2 (((asg_all h0 _ hl _ (row_mem hj)).2 _).2 (mem_endsL.1 (nth_mem' hi)))

theorem asg_order {f : Flow} {j : Nat} (hj : j + 1 < (asgL f).length) : ltL (rowAt (asgL f) j) (rowAt (asgL f) (j + 1)) = true := by
  have h := List.pairwise_iff_getElem.1 (asg_srt (f := f) f.lots.length) j (j + 1) (by have : (asgL f).length = (asgTo f f.lots.length).length := rfl; omega) (by have : (asgL f).length = (asgTo f f.lots.length).length := rfl; omega) (by omega)
  unfold rowAt
  rw [List.getD_eq_getElem?_getD, List.getD_eq_getElem?_getD, List.getElem?_eq_getElem hj, List.getElem?_eq_getElem (show j < (asgL f).length by omega)]
  exact h

theorem asg_rowlen {f : Flow} {j : Nat} (hj : j < (asgL f).length) : (rowAt (asgL f) j).length = f.senders.toNat := asg_len _ _ (row_mem hj)

end Go.Proofs.Ythekefnocphcdaa

set_option linter.unusedVariables false

set_option linter.unusedSimpArgs false

namespace Go.Proofs.Ythekefnocphcdaa

open Go.RowKit

set_option maxHeartbeats 4000000 in
set_option maxRecDepth 100000 in
/-- PromiseCounted -/
theorem promiseCounted_any (B : Nat) (w : World) (vs vl : Value) (f : Flow) (s : Int) (hf : IsFlow B w vs vl f) (hB : B ≤ w.heap.size) (hs : I64 s) :
    Calls Try.prog 10 #[.agg #[vs, vl], .int .i64 s] w fun e w' => e = .returned (.bool true) ∧ Below w.heap.size w w' := by
  have HF := Lib.hid hf
  obtain ⟨rfl, ⟨hs1, hs2⟩, hl⟩ := hf
  obtain ⟨b, off, cap, ⟨a, rfl, hcap, hmax, ha⟩, hlen, hc⟩ := hl
  clear hc ha
  go_enter Try.func10, Try.ntmps10
  go_wp2_with fail
  refine (sane31_any _).mono ?_
  rintro e w1 ⟨rfl, hb1⟩
  have HX1 := Lib.hid ((Box.new w #[.int .i64 f.senders, .slice a f.lots.length cap] 24).ext hb1)
  have HW1 : Hid (Below w.heap.size w w1) := Lib.hid ((box_below' w _).trans (hb1.mono (by simp)))
  obtain ⟨z1, r1⟩ := HX1.out
  clear hb1
  go_wp2_with fail
  refine (few31_any B w1 _ _ f (HF.out.below HW1.out hB) (Nat.le_trans hB HW1.out.size)).mono ?_
  rintro e w2 ⟨rfl, hb2⟩
  have HX2 := Lib.hid (HX1.out.ext hb2)
  have HW2 : Hid (Below w.heap.size w w2) := Lib.hid (HW1.out.trans (hb2.mono HW1.out.size))
  clear hb2 z1 r1
  cases hfew : few26 f
  · clear hfew
    go_wp2
    go_ret
    exact ⟨rfl, HW2.out⟩
  · clear hfew
    obtain ⟨z2, r2⟩ := HX2.out
    go_wp2_with fail
    refine (few27_any B w2 _ _ f (HF.out.below HW2.out hB) (Nat.le_trans hB HW2.out.size)).mono ?_
    rintro e w3 ⟨rfl, hb3⟩
    have HX3 := Lib.hid (HX2.out.ext hb3)
    have HW3 : Hid (Below w.heap.size w w3) := Lib.hid (HW2.out.trans (hb3.mono HW2.out.size))
    clear hb3 z2 r2
    cases hfew : few27 f
    · clear hfew
      go_wp2
      go_ret
      exact ⟨rfl, HW3.out⟩
    · clear hfew
      by_cases h5 : 5 < f.senders
      · have h5' : decide (5 < f.senders) = true := decide_eq_true h5
        obtain ⟨z3, r3⟩ := HX3.out
        go_wp2
        go_ret
        exact ⟨rfl, HW3.out⟩
      · have h5' : decide (5 < f.senders) = false := decide_eq_false h5
        have H5 := Lib.hid h5
        clear h5
        by_cases hr : reachE f s = 0
        · have hck : checkE f = 0 := by
            unfold reachE at hr
            split at hr
            · contradiction
            · omega
          have hs2 : 0 ≤ s ∧ s < f.senders := by
            unfold reachE at hr
            rw [if_neg (by omega)] at hr
            split at hr
            · omega
            · omega
          obtain ⟨sn, rfl⟩ : ∃ n : Nat, s = n := ⟨s.toNat, by omega⟩
          have hall : allE f = 0 := allE_few hck (by have := H5.out; omega)
          have HRR : Hid (allR f = asgL f) := Lib.hid (by unfold allR; rw [if_pos hall])
          have HRL : Hid (((reachR f (sn : Int)).length : Int) = (((gathTo (asgL f) sn (asgL f).length).length : Nat) : Int)) := Lib.hid (by unfold reachR; rw [if_pos hr, crowd_counted hck hs2.2])
          have HRE := Lib.hid hr
          have HAE := Lib.hid hall
          obtain ⟨h0, _, _, _, hlt0⟩ := checkE_ok hck
          have HM : Hid ((asgL f).length ≤ 5040) := Lib.hid (asg_few h0 (by have := H5.out; omega) hlt0)
          have HRW : Hid (∀ j, j < (asgL f).length → sn < (rowAt (asgL f) j).length) := Lib.hid (fun j hj => by rw [asg_rowlen hj]; omega)
          have HSN := Lib.hid hs2
          clear hr hck hs2 hall h0 hlt0
          obtain ⟨z3, r3⟩ := HX3.out
          go_wp2_with fail
          refine (crowd_any B w3 _ _ f sn (HF.out.below HW3.out hB) (Nat.le_trans hB HW3.out.size) hs).mono ?_
          rintro e w4 ⟨rfl, hb4⟩
          have HX4 := Lib.hid (HX3.out.ext hb4)
          have HW4 : Hid (Below w.heap.size w w4) := Lib.hid (HW3.out.trans (hb4.mono HW3.out.size))
          rw [HRL.out, HRE.out]
          clear hb4 z3 r3
          obtain ⟨z4, r4⟩ := HX4.out
          go_wp2_with fail
          refine (all27_any B w4 _ _ f (HF.out.below HW4.out hB) (Nat.le_trans hB HW4.out.size)).mono ?_
          rintro e w5 ⟨v5, rfl, ho5, hb5⟩
          have HX5 := Lib.hid (HX4.out.ext hb5)
          have HW5 : Hid (Below w.heap.size w w5) := Lib.hid (HW4.out.trans (hb5.mono HW4.out.size))
          rw [HAE.out]
          rw [HRR.out] at ho5
          have HI := Lib.hid ho5.isMat
          clear ho5
          clear hb5 z4 r4
          obtain ⟨L, hL⟩ : ∃ L, asgL f = L := ⟨_, rfl⟩
          rw [hL] at HI HM HRW ⊢
          clear hL HRR HRL
          obtain ⟨b', off', cap', ⟨a', rfl, hcap', hmax', ha'⟩, hlen', hc'⟩ := HI.out
          have HC' := Lib.hid hc'
          have HA' := Lib.hid ha'
          clear hc' ha'
          have hneg : decide ((sn : Int) < 0) = false := decide_eq_false (by omega)
          obtain ⟨z5, r5⟩ := HX5.out
          go_wp2
          go_loopw [9, 10] (fun v i wr => ∃ k : Nat, k ≤ L.length ∧ i = .int .i64 k ∧ OwnInts w5.heap.size wr v (gathTo L sn k) ∧ Below w5.heap.size w5 wr) (fun _ i _ => L.length - (intOf i).toNat)
          case atStart => exact ⟨0, by omega, rfl, OwnInts.nil _ _, Below.refl _ _⟩
          case round =>
            obtain ⟨k, hk, rfl, hno, hbr⟩ := hrel
            have HO := Lib.hid hno
            have HBR := Lib.hid hbr
            clear hno hbr
            by_cases hlt : k < L.length
            · obtain rfl : a' = some ⟨b', off', none⟩ := by rcases HA'.out with h | h; exact h; omega
              have hsn := HRW.out k hlt
              have HGS : Hid (gathTo L sn (k + 1) = if hasB (gathTo L sn k) (nth (rowAt L k) sn) then gathTo L sn k else gathTo L sn k ++ [nth (rowAt L k) sn]) := Lib.hid rfl
              have HGL := Lib.hid (gath_len L sn k)
              obtain ⟨r1, q1, i1⟩ := HC'.out k hlt
              obtain ⟨R, hR⟩ : ∃ R, rowAt L k = R := ⟨_, rfl⟩
              rw [hR] at i1 hsn HGS
              clear hR
              obtain ⟨x1, o1, k1, ⟨a1, rfl, hcap1, hmax1, ha1⟩, hlen1, hz1, hc1⟩ := i1
              obtain rfl : a1 = some ⟨x1, o1, none⟩ := by rcases ha1 with h | h; exact h; omega
              have c1 := (q1.below HBR.out (Nat.le_refl _)).2
              have c2 := ((hc1 sn hsn).below HBR.out (Nat.le_refl _)).2
              have hge : decide ((R.length : Int) ≤ (sn : Int)) = false := decide_eq_false (by omega)
              have HZ : Hid (I64 (nth R sn)) := Lib.hid (hz1 _ (nth_mem' hsn))
              clear q1 hc1 hz1 ha1
              obtain ⟨x, hx⟩ : ∃ x, nth R sn = x := ⟨_, rfl⟩
              rw [hx] at c2 HGS HZ
              clear hx
              cases hg : hasB (gathTo L sn k) x
              · have HG := Lib.hid hg
                rw [hg] at HGS
                clear hg
                go_wp2_with (first
                  | (go_at_call 29; refine (has_any _ _ _ _ _ HO.out.isInts).mono ?_; rintro e w7 ⟨rfl, rfl⟩; rw [HG.out])
                  | (at_builtin; refine append_int (n := x) rfl _ _ rfl rfl (HO.out.alloc _) rfl ?c1 ?c2 ?c3 ?c4 ?c5))
                case c1 => exact World.cell?_alloc_at _ _ _ _ rfl
                case c2 => exact HZ.out
                case c3 => have := HGL.out; have := HM.out; omega
                case c4 => have := HBR.out.size; simp; omega
                case c5 =>
                  intro v' w8 ho8 hg8
                  have HO8 := Lib.hid ho8
                  have HW8 : Hid (Below w5.heap.size w5 w8) := Lib.hid ((HBR.out.alloc (by have := HBR.out.size; omega) _).grown hg8 (by have := HBR.out.size; simp; omega) (fun q hq => (HO.out.1.lt q hq).1))
                  clear ho8 hg8
                  go_wp2
                  go_roundw
                  case rel => exact ⟨k + 1, by omega, by go_num, by rw [HGS.out]; exact HO8.out, HW8.out⟩
                  case measure => simp [intOf]; omega
              · have HG := Lib.hid hg
                rw [hg] at HGS
                clear hg
                go_wp2_with (go_at_call 29; refine (has_any _ _ _ _ _ HO.out.isInts).mono ?_; rintro e w7 ⟨rfl, rfl⟩; rw [HG.out])
                go_roundw
                case rel => exact ⟨k + 1, by omega, by go_num, by rw [HGS.out]; exact HO.out, HBR.out⟩
                case measure => simp [intOf]; omega
            · obtain rfl : k = L.length := by omega
              obtain ⟨a9, c9, rfl, _⟩ := HO.out.form
              go_wp2
              go_ret
              exact ⟨rfl, HW5.out.trans (HBR.out.mono HW5.out.size)⟩
        · have hr1 : (reachE f s != 0) = true := by simpa using hr
          have HRL : Hid (reachR f s = []) := Lib.hid (by unfold reachR; rw [if_neg hr])
          clear hr
          obtain ⟨z3, r3⟩ := HX3.out
          go_wp2_with fail
          refine (crowd_any B w3 _ _ f s (HF.out.below HW3.out hB) (Nat.le_trans hB HW3.out.size) hs).mono ?_
          rintro e w4 ⟨rfl, hb4⟩
          have HX4 := Lib.hid (HX3.out.ext hb4)
          have HW4 : Hid (Below w.heap.size w w4) := Lib.hid (HW3.out.trans (hb4.mono HW3.out.size))
          rw [HRL.out]
          clear hb4 z3 r3
          obtain ⟨z4, r4⟩ := HX4.out
          go_wp2_with fail
          refine (all27_any B w4 _ _ f (HF.out.below HW4.out hB) (Nat.le_trans hB HW4.out.size)).mono ?_
          rintro e w5 ⟨v5, rfl, ho5, hb5⟩
          have HX5 := Lib.hid (HX4.out.ext hb5)
          have HW5 : Hid (Below w.heap.size w w5) := Lib.hid (HW4.out.trans (hb5.mono HW4.out.size))
          obtain ⟨a5, c5, rfl, _⟩ := ho5.form
          clear ho5
          clear hb5 z4 r4
          obtain ⟨z5, r5⟩ := HX5.out
          go_wp2
          go_ret
          exact ⟨rfl, HW5.out⟩

end Go.Proofs.Ythekefnocphcdaa

set_option linter.unusedVariables false

set_option linter.unusedSimpArgs false

namespace Go.Proofs.Ythekefnocphcdaa

open Go.RowKit

set_option maxHeartbeats 4000000 in
set_option maxRecDepth 100000 in
/-- CountEnds -/
theorem countEnds_any (B : Nat) (w : World) (vs vl : Value) (f : Flow) (hf : IsFlow B w vs vl f) (hB : B ≤ w.heap.size) :
    Calls Try.prog 7 #[.agg #[vs, vl]] w fun e w' => e = .returned (.bool true) ∧ Below w.heap.size w w' := by
  have HF := Lib.hid hf
  obtain ⟨rfl, ⟨hs1, hs2⟩, hl⟩ := hf
  obtain ⟨b, off, cap, ⟨a, rfl, hcap, hmax, ha⟩, hlen, hc⟩ := hl
  clear hc ha
  go_enter Try.func7, Try.ntmps7
  go_wp2_with fail
  refine (sane27_any _).mono ?_
  rintro e w1 ⟨rfl, hb1⟩
  have HX1 := Lib.hid ((Box.new w #[.int .i64 f.senders, .slice a f.lots.length cap] 24).ext hb1)
  have HW1 : Hid (Below w.heap.size w w1) := Lib.hid ((box_below' w _).trans (hb1.mono (by simp)))
  obtain ⟨z1, r1⟩ := HX1.out
  clear hb1
  go_wp2_with fail
  refine (few27_any B w1 _ _ f (HF.out.below HW1.out hB) (Nat.le_trans hB HW1.out.size)).mono ?_
  rintro e w2 ⟨rfl, hb2⟩
  have HX2 := Lib.hid (HX1.out.ext hb2)
  have HW2 : Hid (Below w.heap.size w w2) := Lib.hid (HW1.out.trans (hb2.mono HW1.out.size))
  clear hb2 z1 r1
  cases hfew : few27 f
  · clear hfew
    go_wp2
    go_ret
    exact ⟨rfl, HW2.out⟩
  · clear hfew
    by_cases hall : allE f = 0
    · have hck : checkE f = 0 := by
        by_cases hc : checkE f = 0
        · exact hc
        · unfold allE at hall
          rw [if_pos hc] at hall
          exact hall
      have HRR : Hid (allR f = asgL f) := Lib.hid (by unfold allR; rw [if_pos hall])
      have HCR : Hid (countR f = ((asgL f).length : Int)) := Lib.hid (by unfold countR; rw [HRR.out])
      have HER : Hid (endsR f = endsL f) := Lib.hid (by unfold endsR; rw [if_pos hck])
      have HAE := Lib.hid hall
      have HCE := Lib.hid hck
      obtain ⟨h0, _, _, _, hlt0⟩ := checkE_ok hck
      have hn0 : (((asgL f).length : Int) == 0) = false := by
        have := asg_ne h0 _ hlt0
        have h2 : (asgL f).length ≠ 0 := fun h => this (List.length_eq_zero_iff.1 h)
        exact beq_eq_false_iff_ne.2 (by omega)
      have hse : (((endsL f).length : Int) != f.senders) = false := by simp [ends_len hck]
      have HRW : Hid (∀ j, j < (asgL f).length → (rowAt (asgL f) j).length = (endsL f).length) := Lib.hid (fun j hj => by rw [asg_rowlen hj]; have := ends_len hck; omega)
      have HORD : Hid (∀ j, j + 1 < (asgL f).length → ltL (rowAt (asgL f) j) (rowAt (asgL f) (j + 1)) = true) := Lib.hid (fun j hj => asg_order hj)
      have HHAS : Hid (∀ j i, j < (asgL f).length → i < (endsL f).length → hasB (rowAt (asgL f) j) (nth (endsL f) i) = true) := Lib.hid (fun j i hj hi => asg_has hck hj hi)
      clear hall hck h0 hlt0
      obtain ⟨z2, r2⟩ := HX2.out
      go_wp2_with fail
      refine (all27_any B w2 _ _ f (HF.out.below HW2.out hB) (Nat.le_trans hB HW2.out.size)).mono ?_
      rintro e w3 ⟨v3, rfl, ho3, hb3⟩
      have HX3 := Lib.hid (HX2.out.ext hb3)
      have HW3 : Hid (Below w.heap.size w w3) := Lib.hid (HW2.out.trans (hb3.mono HW2.out.size))
      rw [HAE.out]
      rw [HRR.out] at ho3
      have HI3 := Lib.hid ho3.isMat
      clear ho3
      clear hb3 z2 r2
      obtain ⟨z3, r3⟩ := HX3.out
      go_wp2_with fail
      refine (ccount_any B w3 _ _ f (HF.out.below HW3.out hB) (Nat.le_trans hB HW3.out.size)).mono ?_
      rintro e w4 ⟨rfl, hb4⟩
      have HX4 := Lib.hid (HX3.out.ext hb4)
      have HW4 : Hid (Below w.heap.size w w4) := Lib.hid (HW3.out.trans (hb4.mono HW3.out.size))
      rw [HAE.out, HCR.out]
      have HI4 := Lib.hid (HI3.out.below hb4 (Nat.le_refl _))
      have HB4S := Lib.hid hb4.size
      clear hb4 z3 r3
      generalize hL : asgL f = L at *
      clear hL HRR HCR HAE
      obtain ⟨a3, c3, rfl⟩ : ∃ a c, v3 = .slice a L.length c := by obtain ⟨_, _, c, ⟨a, e, _⟩, _⟩ := HI4.out; exact ⟨a, c, e⟩
      have HS4 : Hid (w3.heap.size ≤ w4.heap.size) := Lib.hid HB4S.out
      obtain ⟨z4, r4⟩ := HX4.out
      go_wp2_with fail
      refine (fEnds_any B w4 _ _ f (HF.out.below HW4.out hB) (Nat.le_trans hB HW4.out.size)).mono ?_
      rintro e w5 ⟨v5, rfl, ho5, hb5⟩
      have HX5 := Lib.hid (HX4.out.ext hb5)
      have HW5 : Hid (Below w.heap.size w w5) := Lib.hid (HW4.out.trans (hb5.mono HW4.out.size))
      rw [HCE.out]
      rw [HER.out] at ho5
      have HE5 := Lib.hid ho5.isInts
      have HI5 := Lib.hid (HI4.out.below hb5 (HS4.out))
      clear ho5
      clear hb5 z4 r4
      generalize hE : endsL f = E at *
      clear hE HER HCE
      obtain ⟨b', off', cap', ⟨a', ha0, hcap', hmax', ha'⟩, hlen', hc'⟩ := HI5.out
      obtain ⟨rfl, _, rfl⟩ : a3 = a' ∧ L.length = L.length ∧ c3 = cap' := by simpa using ha0
      obtain ⟨be, oe, ce, ⟨ae, rfl, hcape, hmaxe, hae⟩, hlene, hze, hce⟩ := HE5.out
      have HC' := Lib.hid hc'
      have HA' := Lib.hid ha'
      have HCE := Lib.hid hce
      have HAE := Lib.hid hae
      clear hc' ha' hce hae hze ha0
      obtain ⟨z5, r5⟩ := HX5.out
      go_wp2
      go_loopw [9] (fun i wr => ∃ k : Nat, k ≤ L.length ∧ i = .int .i64 k ∧ Drew w5 wr) (fun i _ => L.length - (intOf i).toNat)
      case atStart => exact ⟨0, by omega, rfl, Drew.refl _⟩
      case round =>
        obtain ⟨k, hk, rfl, hd⟩ := hrel
        have HD := Lib.hid hd
        clear hd
        by_cases hlt : k < L.length
        · obtain rfl : a3 = some ⟨b', off', none⟩ := by rcases HA'.out with h | h; exact h; omega
          have HH := Lib.hid (fun i hi => HHAS.out k i hlt hi)
          have hrl := HRW.out k hlt
          obtain ⟨r1, q1, i1⟩ := HC'.out k hlt
          have c1 := (HD.out.cell _).trans q1.2
          obtain ⟨a1, k1, rfl⟩ : ∃ a c, r1 = .slice a E.length c := by obtain ⟨_, _, c, ⟨a, e, _⟩, _⟩ := i1; exact ⟨a, c, by rw [e, hrl]⟩
          have HR1 := Lib.hid i1
          have hq1 := q1.2
          clear q1 i1 hrl
          cases k with
          | zero =>
            simp only [Nat.add_zero] at c1 hq1
            go_wp2
            go_quiet (fail)
            go_wp2
            go_loopw [10] (fun i wr => ∃ j : Nat, j ≤ E.length ∧ i = .int .i64 j ∧ Drew w5 wr) (fun i _ => E.length - (intOf i).toNat)
            case atStart => exact ⟨0, by omega, rfl, by first | exact HD.out | exact HD.out.drewN _⟩
            case round =>
              obtain ⟨j, hj, rfl, hdq⟩ := hrel
              have HDQ := Lib.hid hdq
              clear hdq
              by_cases hjl : j < E.length
              · obtain rfl : ae = some ⟨be, oe, none⟩ := by rcases HAE.out with ha | ha; exact ha; omega
                have d1 := (HDQ.out.cell _).trans (HCE.out j hjl).2
                have d2 := (HDQ.out.cell _).trans hq1
                have HHH : Hid (∀ n, Calls Try.prog 29 #[.slice a1 E.length k1, .int .i64 (nth E j)] (wr.drewN n) fun e w' => e = .returned (.bool true) ∧ w' = wr.drewN n) :=
                  Lib.hid fun n => by have := has_any _ _ _ (rowAt L 0) (nth E j) (HR1.out.drew (HDQ.out.drewN n)); rw [HH.out j hjl] at this; exact this
                go_wp2
                go_quiet ((go_at_call 29; exact Calls.quiet_of_same (HHH.out _)))
                go_wp2
                go_roundw
                case rel => exact ⟨j + 1, by omega, by go_num, HDQ.out.drewN _⟩
                case measure => simp [intOf]; omega
              · obtain rfl : j = E.length := by omega
                go_wp2
                go_roundw
                case rel => exact ⟨0 + 1, by omega, by go_num, HDQ.out⟩
                case measure => simp [intOf]; omega
          | succ m =>
            have HO : Hid (ltL (rowAt L m) (rowAt L (m + 1)) = true) := Lib.hid (HORD.out m hlt)
            obtain ⟨r2, q2, i2⟩ := HC'.out m (by omega)
            have c2 := (HD.out.cell _).trans q2.2
            obtain ⟨a2, n2, k2, rfl⟩ : ∃ a n c, r2 = .slice a n c := by obtain ⟨_, _, c, ⟨a, e, _⟩, _⟩ := i2; exact ⟨a, _, c, e⟩
            have HCC := Lib.hid (fun n => rless27_any _ _ (wr.drewN n) _ _ (rowAt L m) (rowAt L (m + 1)) (i2.drew (HD.out.drewN n)) (HR1.out.drew (HD.out.drewN n)))
            rw [HO.out] at HCC
            clear q2 i2
            have hsub : (((m + 1 : Nat) : Int) - 1) = (m : Int) := by omega
            go_wp2
            go_quiet ((go_at_call 28; exact Calls.quiet_of (HCC.out _)))
            go_wp2
            go_loopw [10] (fun i wr => ∃ j : Nat, j ≤ E.length ∧ i = .int .i64 j ∧ Drew w5 wr) (fun i _ => E.length - (intOf i).toNat)
            case atStart => exact ⟨0, by omega, rfl, by first | exact HD.out | exact HD.out.drewN _⟩
            case round =>
              obtain ⟨j, hj, rfl, hdq⟩ := hrel
              have HDQ := Lib.hid hdq
              clear hdq
              by_cases hjl : j < E.length
              · obtain rfl : ae = some ⟨be, oe, none⟩ := by rcases HAE.out with ha | ha; exact ha; omega
                have d1 := (HDQ.out.cell _).trans (HCE.out j hjl).2
                have d2 := (HDQ.out.cell _).trans hq1
                have HHH : Hid (∀ n, Calls Try.prog 29 #[.slice a1 E.length k1, .int .i64 (nth E j)] (wr.drewN n) fun e w' => e = .returned (.bool true) ∧ w' = wr.drewN n) :=
                  Lib.hid fun n => by have := has_any _ _ _ (rowAt L (m + 1)) (nth E j) (HR1.out.drew (HDQ.out.drewN n)); rw [HH.out j hjl] at this; exact this
                go_wp2
                go_quiet ((go_at_call 29; exact Calls.quiet_of_same (HHH.out _)))
                go_wp2
                go_roundw
                case rel => exact ⟨j + 1, by omega, by go_num, HDQ.out.drewN _⟩
                case measure => simp [intOf]; omega
              · obtain rfl : j = E.length := by omega
                go_wp2
                go_roundw
                case rel => exact ⟨(m + 1) + 1, by omega, by go_num, HDQ.out⟩
                case measure => simp [intOf]; omega
        · obtain rfl : k = L.length := by omega
          go_wp2
          go_ret
          exact ⟨rfl, HW5.out.trans (HD.out.below _)⟩
    · have HRR : Hid (allR f = []) := Lib.hid (by unfold allR; rw [if_neg hall])
      have HCR : Hid (countR f = 0) := Lib.hid (by unfold countR; rw [HRR.out]; rfl)
      have hall1 : (allE f != 0) = true := by simpa using hall
      obtain ⟨ee, hee⟩ : ∃ x, allE f = x := ⟨_, rfl⟩
      have he1 : (ee == ee) = true := by simp
      rw [hee] at hall1
      clear hall
      obtain ⟨z2, r2⟩ := HX2.out
      go_wp2_with fail
      refine (all27_any B w2 _ _ f (HF.out.below HW2.out hB) (Nat.le_trans hB HW2.out.size)).mono ?_
      rintro e w3 ⟨v3, rfl, ho3, hb3⟩
      have HX3 := Lib.hid (HX2.out.ext hb3)
      have HW3 : Hid (Below w.heap.size w w3) := Lib.hid (HW2.out.trans (hb3.mono HW2.out.size))
      rw [hee]
      rw [HRR.out] at ho3
      obtain ⟨a3, c3, rfl, _⟩ := ho3.form
      clear ho3
      clear hb3 z2 r2
      obtain ⟨z3, r3⟩ := HX3.out
      go_wp2_with fail
      refine (ccount_any B w3 _ _ f (HF.out.below HW3.out hB) (Nat.le_trans hB HW3.out.size)).mono ?_
      rintro e w4 ⟨rfl, hb4⟩
      have HX4 := Lib.hid (HX3.out.ext hb4)
      have HW4 : Hid (Below w.heap.size w w4) := Lib.hid (HW3.out.trans (hb4.mono HW3.out.size))
      rw [hee, HCR.out]
      clear hb4 z3 r3
      obtain ⟨z4, r4⟩ := HX4.out
      go_wp2
      go_ret
      exact ⟨rfl, HW4.out⟩

end Go.Proofs.Ythekefnocphcdaa

set_option linter.unusedVariables false

set_option linter.unusedSimpArgs false

namespace Go.Proofs.Ythekefnocphcdaa

theorem incTo_of {l : List Int} : ∀ m, m < l.length ∨ m = 0 → l.Pairwise (· < ·) → incTo l m = true
  | 0, _, _ => rfl
  | m + 1, h, hp => by
    have hm : m + 1 < l.length := by omega
    simp only [incTo, Bool.and_eq_true, decide_eq_true_eq]
    refine ⟨incTo_of m (by omega) hp, ?_⟩
    rw [nth_lt (show m < l.length by omega), nth_lt hm]
    exact List.pairwise_iff_getElem.1 hp m (m + 1) (by omega) hm (by omega)

theorem incB_of {l : List Int} (hp : l.Pairwise (· < ·)) : incB l = true := incTo_of _ (by omega) hp

theorem lastL_pair (f : Flow) : ∀ m, (lastL f m).Pairwise (· < ·)
  | 0 => List.Pairwise.nil
  | m + 1 => by
    simp only [lastL]
    split
    · refine List.pairwise_append.2 ⟨lastL_pair f m, by simp, fun y hy z hz => ?_⟩
      obtain rfl := List.mem_singleton.1 hz
      exact (lastL_mem f m y hy).2
    · exact lastL_pair f m

theorem firstL_pair (f : Flow) : ∀ m, (firstL f m).Pairwise (· < ·)
  | 0 => List.Pairwise.nil
  | m + 1 => by
    simp only [firstL]
    split
    · refine List.pairwise_append.2 ⟨firstL_pair f m, by simp, fun y hy z hz => ?_⟩
      obtain rfl := List.mem_singleton.1 hz
      exact (firstL_mem f m y hy).2
    · exact firstL_pair f m

theorem withinB_self (l : List Int) : withinB l l = true := by
  unfold withinB anyB
  simp only [Bool.not_eq_true', List.any_eq_false]
  intro x hx
  rw [hasB_mem.2 hx]
  simp

theorem lower_shown {f : Flow} (hc : checkE f = 0) (h : lowerE f = 0) : bcheckB f (lowerR f) (lowerL f) = true := by
  have hok : lowerOk f = true := by
    unfold lowerE at h
    rw [if_neg (by omega)] at h
    split at h
    · assumption
    · omega
  unfold lowerOk at hok
  rw [Bool.and_eq_true] at hok
  unfold lowerR lowerL
  rw [if_pos h, if_pos h]
  by_cases hle : prodR f (firstL f f.lots.length) ≤ prodR f (lastL f f.lots.length)
  · rw [if_pos hle, if_pos hle]
    unfold bcheckB
    rw [incB_of (lastL_pair f _), withinB_self, hok.1]
    simp
  · rw [if_neg hle, if_neg hle]
    unfold bcheckB
    rw [incB_of (firstL_pair f _), withinB_self, hok.2]
    simp

theorem allE_cases {f : Flow} (hc : checkE f = 0) : allE f = 0 ∨ allE f = 2 := by
  unfold allE
  rw [if_neg (by simp [hc])]
  split
  · exact .inr rfl
  · split
    · exact .inr rfl
    · exact .inl rfl

theorem lastL_short (f : Flow) : ∀ m, (lastL f m).length ≤ m
  | 0 => Nat.le_refl _
  | m + 1 => by
    have := lastL_short f m
    simp only [lastL]
    split
    · simp; omega
    · omega

theorem firstL_short (f : Flow) : ∀ m, (firstL f m).length ≤ m
  | 0 => Nat.le_refl _
  | m + 1 => by
    have := firstL_short f m
    simp only [firstL]
    split
    · simp; omega
    · omega

theorem lowerL_short (f : Flow) : (lowerL f).length ≤ f.lots.length := by
  unfold lowerL
  split
  · split
    · exact lastL_short f _
    · exact firstL_short f _
  · simp

theorem count_between {f : Flow} (hc : checkE f = 0) (h6 : f.senders ≤ 6) :
    upperE f = 0 ∧ lowerE f = 0 ∧ bcheckR f (lowerR f) (lowerL f) = true ∧ lowerR f ≤ upperR f ∧
      (allE f = 0 → lowerR f ≤ countR f ∧ countR f ≤ upperR f ∧ ∀ n l, bcheckR f n l = true → n ≤ countR f) := by
  have hu : upperE f = 0 := by
    unfold upperE
    rw [if_neg (by simp [hc]), if_neg (by omega)]
  have hlo := lower_ok hc h6
  have h1 := lower_le hc hlo
  have h2 := asg_upper hc
  have e : upperR f = waysS (rowsOf f) [] := by unfold upperR; rw [if_pos hu]
  refine ⟨hu, hlo, ?_, by omega, fun ha => ?_⟩
  · unfold bcheckR
    rw [lower_shown hc hlo]
    simp [hc]
  · have ec : countR f = ((asgL f).length : Int) := by unfold countR allR; rw [if_pos ha]
    refine ⟨by omega, by omega, fun n l h => ?_⟩
    unfold bcheckR at h
    rw [Bool.and_eq_true] at h
    have := bcheck_le hc h.2
    omega

end Go.Proofs.Ythekefnocphcdaa

set_option linter.unusedVariables false

set_option linter.unusedSimpArgs false

namespace Go.Proofs.Ythekefnocphcdaa

open Go.RowKit

set_option maxHeartbeats 4000000 in
set_option maxRecDepth 100000 in
/-- BoundsCount -/
theorem boundsCount_any (B : Nat) (w : World) (vs vl vx : Value) (f : Flow) (n : Int) (l : List Int) (hf : IsFlow B w vs vl f) (hx : IsInts B w vx l) (hB : B ≤ w.heap.size) :
    Calls Try.prog 11 #[.agg #[vs, vl], .int .i64 n, vx] w fun e w' => e = .returned (.bool true) ∧ Below w.heap.size w w' := by
  have HF := Lib.hid hf
  obtain ⟨rfl, ⟨hs1, hs2⟩, hl⟩ := hf
  obtain ⟨b, off, cap, ⟨a, rfl, hcap, hmax, ha⟩, hlen, hc⟩ := hl
  clear hc ha
  have HXX := Lib.hid hx
  obtain ⟨ax, cx, rfl⟩ := hx.form
  clear hx
  go_enter Try.func11, Try.ntmps11
  go_wp2_with fail
  refine (sane28_any _).mono ?_
  rintro e w1 ⟨rfl, hb1⟩
  have HX1 := Lib.hid ((Box.new w #[.int .i64 f.senders, .slice a f.lots.length cap] 24).ext hb1)
  have HW1 : Hid (Below w.heap.size w w1) := Lib.hid ((box_below' w _).trans (hb1.mono (by simp)))
  obtain ⟨z1, r1⟩ := HX1.out
  clear hb1
  go_wp2_with fail
  refine (few28_any B w1 _ _ f (HF.out.below HW1.out hB) (Nat.le_trans hB HW1.out.size)).mono ?_
  rintro e w2 ⟨rfl, hb2⟩
  have HX2 := Lib.hid (HX1.out.ext hb2)
  have HW2 : Hid (Below w.heap.size w w2) := Lib.hid (HW1.out.trans (hb2.mono HW1.out.size))
  clear hb2 z1 r1
  cases hfew : few28 f
  · clear hfew
    go_wp2
    go_ret
    exact ⟨rfl, HW2.out⟩
  · have HFW := Lib.hid hfew
    clear hfew
    obtain ⟨z2, r2⟩ := HX2.out
    go_wp2_with fail
    refine (check25_any B w2 _ _ f (HF.out.below HW2.out hB) (Nat.le_trans hB HW2.out.size)).mono ?_
    rintro e w3 ⟨rfl, hb3⟩
    have HX3 := Lib.hid (HX2.out.ext hb3)
    have HW3 : Hid (Below w.heap.size w w3) := Lib.hid (HW2.out.trans (hb3.mono HW2.out.size))
    clear hb3 z2 r2
    by_cases hck : checkE f = 0
    · rw [hck]
      by_cases h6 : 6 < f.senders
      · have h6' : decide (6 < f.senders) = true := decide_eq_true h6
        clear hck
        obtain ⟨z3, r3⟩ := HX3.out
        go_wp2
        go_ret
        exact ⟨rfl, HW3.out⟩
      · have h6' : decide (6 < f.senders) = false := decide_eq_false h6
        by_cases h100 : 100 < l.length
        · have h100' : decide (100 < (l.length : Int)) = true := decide_eq_true (by omega)
          clear hck h6
          obtain ⟨z3, r3⟩ := HX3.out
          go_wp2
          go_ret
          exact ⟨rfl, HW3.out⟩
        · have h100' : decide (100 < (l.length : Int)) = false := decide_eq_false (by omega)
          obtain ⟨hu, hlo, hsh, hlu, hmid⟩ := count_between hck (by omega)
          have HU := Lib.hid hu
          have HLO := Lib.hid hlo
          have HSH := Lib.hid hsh
          have HCK := Lib.hid hck
          have HMID := Lib.hid hmid
          have HEC := Lib.hid (allE_cases hck)
          have H6 : Hid (f.senders ≤ 6) := Lib.hid (by omega)
          have hlu' : decide (upperR f < lowerR f) = false := decide_eq_false (by omega)
          have HL100 : Hid (l.length ≤ 1000) := Lib.hid (by omega)
          have HLS : Hid ((lowerL f).length ≤ 1000) := Lib.hid (by have := lowerL_short f; have := (few25_spec (f := f) (by have := HFW.out; unfold few28 at this; rw [Bool.and_eq_true] at this; exact this.1)).1; omega)
          clear hu hlo hsh hlu hmid hck h6 h100
          obtain ⟨lo, hlo⟩ : ∃ x, lowerR f = x := ⟨_, rfl⟩
          obtain ⟨up, hup⟩ : ∃ x, upperR f = x := ⟨_, rfl⟩
          obtain ⟨cc, hcc⟩ : ∃ x, countR f = x := ⟨_, rfl⟩
          obtain ⟨bb, hbb⟩ : ∃ x, bcheckR f n l = x := ⟨_, rfl⟩
          have HBB : Hid (allE f = 0 → bb = true → n ≤ cc) := Lib.hid (fun h0 h1 => by have := (HMID.out h0).2.2 n l (by rw [hbb]; exact h1); rw [hcc] at this; exact this)
          rw [hlo, hup] at hlu'
          rw [hlo, hup, hcc] at HMID
          rw [hlo] at HSH
          obtain ⟨z3, r3⟩ := HX3.out
          go_wp2_with fail
          refine (bupper_any B w3 _ _ f (HF.out.below HW3.out hB) (Nat.le_trans hB HW3.out.size) (.inl H6.out)).mono ?_
          rintro e w4 ⟨rfl, hb4⟩
          have HX4 := Lib.hid (HX3.out.ext hb4)
          have HW4 : Hid (Below w.heap.size w w4) := Lib.hid (HW3.out.trans (hb4.mono HW3.out.size))
          rw [HU.out, hup]
          clear hb4 z3 r3
          obtain ⟨z4, r4⟩ := HX4.out
          go_wp2_with fail
          refine (blower_any B w4 _ _ f (HF.out.below HW4.out hB) (Nat.le_trans hB HW4.out.size)).mono ?_
          rintro e w5 ⟨v5, rfl, ho5, hb5⟩
          have HX5 := Lib.hid (HX4.out.ext hb5)
          have HW5 : Hid (Below w.heap.size w w5) := Lib.hid (HW4.out.trans (hb5.mono HW4.out.size))
          rw [HLO.out, hlo]
          obtain ⟨a5, c5, rfl, _⟩ := ho5.form
          have HI5 := Lib.hid ho5.isInts
          clear ho5
          clear hb5 z4 r4
          obtain ⟨z5, r5⟩ := HX5.out
          go_wp2_with fail
          refine (ccount_any B w5 _ _ f (HF.out.below HW5.out hB) (Nat.le_trans hB HW5.out.size)).mono ?_
          rintro e w6 ⟨rfl, hb6⟩
          have HX6 := Lib.hid (HX5.out.ext hb6)
          have HW6 : Hid (Below w.heap.size w w6) := Lib.hid (HW5.out.trans (hb6.mono HW5.out.size))
          rw [hcc]
          have HI6 := Lib.hid (HI5.out.below hb6 (Nat.le_refl _))
          have HS6 := Lib.hid hb6.size
          clear hb6 z5 r5
          obtain ⟨z6, r6⟩ := HX6.out
          go_wp2_with fail
          refine (bcheck_any w5.heap.size w6 _ _ _ f lo (lowerL f) (HF.out.below HW6.out hB |>.mono (Nat.le_trans hB HW5.out.size)) HI6.out HS6.out HLS.out).mono ?_
          rintro e w7 ⟨rfl, hb7⟩
          have HX7 := Lib.hid (HX6.out.ext hb7)
          have HW7 : Hid (Below w.heap.size w w7) := Lib.hid (HW6.out.trans (hb7.mono HW6.out.size))
          rw [HCK.out, HSH.out]
          clear hb7 z6 r6
          obtain ⟨z7, r7⟩ := HX7.out
          go_wp2_with fail
          refine (bcheck_any B w7 _ _ _ f n l (HF.out.below HW7.out hB) (HXX.out.below HW7.out hB) (Nat.le_trans hB HW7.out.size) HL100.out).mono ?_
          rintro e w8 ⟨rfl, hb8⟩
          have HX8 := Lib.hid (HX7.out.ext hb8)
          have HW8 : Hid (Below w.heap.size w w8) := Lib.hid (HW7.out.trans (hb8.mono HW7.out.size))
          rw [HCK.out, hbb]
          clear hb8 z7 r7
          obtain ⟨z8, r8⟩ := HX8.out
          rcases HEC.out with he | he
          · obtain ⟨m1, m2, _⟩ := HMID.out he
            have m1' : decide (lo ≤ cc) = true := decide_eq_true m1
            have m2' : decide (cc ≤ up) = true := decide_eq_true m2
            have HB1 := Lib.hid (HBB.out he)
            rw [he]
            clear m1 m2 he hlo hup hcc hbb HEC
            cases bb
            · go_wp2
              go_ret
              exact ⟨rfl, HW8.out⟩
            · have m3' : decide (n ≤ cc) = true := decide_eq_true (HB1.out rfl)
              go_wp2
              go_ret
              exact ⟨rfl, HW8.out⟩
          · rw [he]
            clear he hlo hup hcc hbb HEC
            go_wp2
            go_ret
            exact ⟨rfl, HW8.out⟩
    · have hck1 : (checkE f != 0) = true := by simpa using hck
      clear hck
      obtain ⟨z3, r3⟩ := HX3.out
      go_wp2
      go_ret
      exact ⟨rfl, HW3.out⟩

end Go.Proofs.Ythekefnocphcdaa

set_option linter.unusedVariables false

set_option linter.unusedSimpArgs false

namespace Go.Proofs.Ythekefnocphcdaa

open Go.RowKit

/-- RegApp's list of done operations, its allocation done ahead -/
def mapW (L : Nat → Bool) : Nat → Bool := fun i => if i = 10 then true else if i = 11 then L 10 else L i

theorem mapW_upd {L : Nat → Bool} {i : Nat} (h : i < 10) : mapW (upd L i) = upd (mapW L) i := by
  funext j
  unfold mapW upd
  by_cases h1 : j = 10
  · subst h1; simp
  · by_cases h2 : j = 11
    · subst h2
      have e1 : ((10 : Nat) == i) = false := beq_eq_false_iff_ne.2 (by omega)
      have e2 : ((11 : Nat) == i) = false := beq_eq_false_iff_ne.2 (by omega)
      simp [e1, e2]
    · simp [h1, h2]

theorem mapW_last {L : Nat → Bool} : mapW (upd L 10) = upd (mapW L) 11 := by
  funext j
  unfold mapW upd
  by_cases h1 : j = 10
  · subst h1; simp
  · by_cases h2 : j = 11
    · subst h2; simp
    · have e1 : (j == 10) = false := beq_eq_false_iff_ne.2 h1
      have e2 : (j == 11) = false := beq_eq_false_iff_ne.2 h2
      simp [h1, h2, e1, e2]

set_option maxHeartbeats 8000000 in
set_option maxRecDepth 100000 in
/-- frankinglaw27.with -/
theorem with27_any (B : Nat) (w : World) (vs vl vi vk vp : Value) (f : Flow) (x : Lot) (hf : IsFlow B w vs vl f) (hx : IsLot B w vi vk vp x) (hle : f.lots.length ≤ 2513169434843) (hB : B ≤ w.heap.size) :
    Calls Try.prog 26 #[.agg #[vs, vl], .agg #[vi, vk, vp]] w fun e w' => ∃ vl', e = .returned (.agg #[.int .i64 f.senders, vl']) ∧ IsFlow w'.heap.size w' (.int .i64 f.senders) vl' (extF f x) ∧ Below w.heap.size w w' := by
  have HF := Lib.hid hf
  have HXL := Lib.hid hx
  obtain ⟨rfl, ⟨hs1, hs2⟩, hl⟩ := hf
  obtain ⟨b, off, cap, ⟨a, rfl, hcap, hmax, ha⟩, hlen, hc⟩ := hl
  obtain ⟨hxi, rfl, hxp⟩ := hx
  obtain ⟨bi, offi, capi, ⟨ai, rfl, hcapi, hmaxi, hai⟩, hleni, hzi, hci⟩ := hxi
  obtain ⟨bp, offp, capp, ⟨ap, rfl, hcapp, hmaxp, hap⟩, hlenp, hzp, hcp⟩ := hxp
  clear hc ha hci hai hzi hcp hap hzp
  go_enter Try.func26, Try.ntmps26
  go_wp2
  obtain ⟨w1, hw1⟩ : ∃ W, W = (w.alloc (.cells #[.int .i64 f.senders, .slice a f.lots.length cap] 24)).alloc (.cells #[.slice ai x.ins.length capi, .bool x.known, .slice ap x.perm.length capp] 39) := ⟨_, rfl⟩
  have HS1 : Hid (w1.heap.size = w.heap.size + 1 + 1) := Lib.hid (by rw [hw1]; simp)
  have HX1 : Hid (Box w1 w.heap.size #[.int .i64 f.senders, .slice a f.lots.length cap]) := Lib.hid (by rw [hw1]; exact (Box.new w #[.int .i64 f.senders, .slice a f.lots.length cap] 24).alloc _)
  have HL1 : Hid (Box w1 (w.heap.size + 1) #[.slice ai x.ins.length capi, .bool x.known, .slice ap x.perm.length capp]) := Lib.hid (by have h := Box.new (w.alloc (.cells #[.int .i64 f.senders, .slice a f.lots.length cap] 24)) #[.slice ai x.ins.length capi, .bool x.known, .slice ap x.perm.length capp] 39; rw [World.size_alloc] at h; rw [hw1]; exact h)
  have HW1 : Hid (Below w.heap.size w w1) := Lib.hid (by rw [hw1]; exact ((Below.refl _ w).alloc (Nat.le_refl _) _).alloc (by simp) _)
  try rw [← hw1]
  clear hw1
  obtain ⟨z1, r1⟩ := HX1.out
  obtain ⟨z2, r2⟩ := HL1.out
  have hsz := HS1.out
  have c0 := (r1 0)
  have c1 := (r1 1)
  have d0 := (r2 0)
  have d1 := (r2 1)
  have d2 := (r2 2)
  simp at c0 c1 d0 d1 d2
  have HKP : Hid (∀ W, Below w1.heap.size w1 W → W.cell? ⟨w.heap.size, 0, none⟩ = some (.int .i64 f.senders) ∧ W.cell? ⟨w.heap.size, 1, none⟩ = some (.slice a f.lots.length cap) ∧
      W.cell? ⟨w.heap.size + 1, 0, none⟩ = some (.slice ai x.ins.length capi) ∧ W.cell? ⟨w.heap.size + 1, 1, none⟩ = some (.bool x.known) ∧ W.cell? ⟨w.heap.size + 1, 2, none⟩ = some (.slice ap x.perm.length capp)) := Lib.hid fun W hW =>
    ⟨(hW.cell (p := ⟨w.heap.size, 0, none⟩) z1).trans c0, (hW.cell (p := ⟨w.heap.size, 1, none⟩) z1).trans c1, (hW.cell (p := ⟨w.heap.size + 1, 0, none⟩) z2).trans d0, (hW.cell (p := ⟨w.heap.size + 1, 1, none⟩) z2).trans d1, (hW.cell (p := ⟨w.heap.size + 1, 2, none⟩) z2).trans d2⟩
  have HSF : Hid (∀ W, Below w1.heap.size w1 W → SrcLots w1.heap.size W (.slice a f.lots.length cap) f.lots) := Lib.hid fun W hW => (HF.out.2.2.below (HW1.out.trans (hW.mono (by omega))) hB).src (by omega)
  have HIL : Hid (∀ W, Below w1.heap.size w1 W → IsLot w1.heap.size W (.slice ai x.ins.length capi) (.bool x.known) (.slice ap x.perm.length capp) x) := Lib.hid fun W hW => by
    have h1 := HXL.out.1.below (HW1.out.trans (hW.mono (by omega))) hB
    have h3 := HXL.out.2.2.below (HW1.out.trans (hW.mono (by omega))) hB
    exact ⟨h1.mono (by omega), rfl, h3.mono (by omega)⟩
  have HA0 : Hid (AI w1 f.lots x (.pointer (some ⟨w.heap.size, 0, none⟩)) (.int .i64 f.senders) (.pointer (some ⟨w.heap.size, 1, none⟩)) (.slice a f.lots.length cap) (.agg #[.slice ai x.ins.length capi, .bool x.known, .slice ap x.perm.length capp]) #[.slice ai x.ins.length capi, .bool x.known, .slice ap x.perm.length capp] (mapW fun _ => false) (.pointer (some ⟨w.heap.size + 1 + 1, 0, none⟩)) undef undef undef undef undef undef undef undef undef undef (w1.alloc (.cells #[.int .i64 0, .slice none 0 0] 24)).drew) := Lib.hid (by
    have h := (AI.start (w1 := w1) (ls := f.lots) (x := x) (v18 := (.pointer (some ⟨w.heap.size, 0, none⟩))) (v19 := .int .i64 f.senders) (v21 := (.pointer (some ⟨w.heap.size, 1, none⟩))) (v22 := (.slice a f.lots.length cap)) (v24 := (.agg #[.slice ai x.ins.length capi, .bool x.known, .slice ap x.perm.length capp])) (lc := #[.slice ai x.ins.length capi, .bool x.known, .slice ap x.perm.length capp]) (x5 := undef) (x18 := undef) (x19 := undef) (x20 := undef) (x21 := undef) (x22 := undef) (x23 := undef) (x24 := undef) (x25 := undef) (x26 := undef) (x27 := undef) rfl rfl rfl).s10 rfl 24
    have e1 : mapW (fun _ => false) = upd (fun _ => false) 10 := by
      funext j
      unfold mapW upd
      by_cases h1 : j = 10 <;> simp [h1]
    rw [e1, ← HS1.out]
    exact h)
  have HBD : Hid (w1.heap.size = w.heap.size + 1 + 1) := Lib.hid hsz
  clear c0 c1 d0 d1 d2 r1 r2 hsz
  refine wp_region_inv (fun a0 L a' w' => ∃ y5 y6 y7 y8 y9 y10 y11 y12 y13 y14, a' = ((((((((((a0.put (some 5) y5).put (some 6) y6).put (some 7) y7).put (some 8) y8).put (some 9) y9).put (some 10) y10).put (some 11) y11).put (some 12) y12).put (some 13) y13).put (some 14) y14) ∧ AI w1 f.lots x (.pointer (some ⟨w.heap.size, 0, none⟩)) (.int .i64 f.senders) (.pointer (some ⟨w.heap.size, 1, none⟩)) (.slice a f.lots.length cap) (.agg #[.slice ai x.ins.length capi, .bool x.known, .slice ap x.perm.length capp]) #[.slice ai x.ins.length capi, .bool x.known, .slice ap x.perm.length capp] (mapW L) (.pointer (some ⟨w.heap.size + 1 + 1, 0, none⟩)) y5 y6 y7 y8 y9 y10 y11 y12 y13 y14 w') (by kernel_rfl) (by kernel_rfl) ?_ ?_ ?_
  focus
    refine ⟨undef, undef, undef, undef, undef, undef, undef, undef, undef, undef, ?_, HA0.out⟩
    focus simp only [Act.put, List.setIfInBounds_toArray, List.set_cons_zero, List.set_cons_succ]
    all_goals rfl
  focus
    refine ⟨?_, ?_, ?_, ?_, ?_, ?_, ?_, ?_, ?_, ?_, ?_, trivial⟩
    all_goals
      intro L a' w' hi hd hI K hK
      obtain ⟨y5, y6, y7, y8, y9, y10, y11, y12, y13, y14, he, hA⟩ := hI
      simp only [Act.put, List.setIfInBounds_toArray, List.set_cons_zero, List.set_cons_succ] at he
      subst he
    focus
      go_simp
      refine hK.out _ _ ⟨(.pointer (some ⟨w.heap.size, 0, none⟩)), y6, y7, y8, y9, y10, y11, y12, y13, y14, ?_, ?_⟩
      focus simp only [Act.put, List.setIfInBounds_toArray, List.set_cons_zero, List.set_cons_succ]
      rw [mapW_upd (by decide)]
      exact hA.s0 hi
    focus
      obtain ⟨d0, _⟩ := hd
      obtain rfl := hA.h0 d0
      obtain ⟨c0, c1, d0, d1, d2⟩ := HKP.out _ hA.hb
      go_simp
      refine hK.out _ _ ⟨(.pointer (some ⟨w.heap.size, 0, none⟩)), (.int .i64 f.senders), y7, y8, y9, y10, y11, y12, y13, y14, ?_, ?_⟩
      focus simp only [Act.put, List.setIfInBounds_toArray, List.set_cons_zero, List.set_cons_succ]
      rw [mapW_upd (by decide)]
      exact hA.s1 hi
    focus
      go_simp
      refine hK.out _ _ ⟨y5, y6, (.slice (some ⟨w'.heap.size, 0, none⟩) 0 0), y8, y9, y10, y11, y12, y13, y14, ?_, ?_⟩
      focus simp only [Act.put, List.setIfInBounds_toArray, List.set_cons_zero, List.set_cons_succ]
      rw [mapW_upd (by decide)]
      exact hA.s2 hi
    focus
      go_simp
      refine hK.out _ _ ⟨y5, y6, y7, (.pointer (some ⟨w.heap.size, 1, none⟩)), y9, y10, y11, y12, y13, y14, ?_, ?_⟩
      focus simp only [Act.put, List.setIfInBounds_toArray, List.set_cons_zero, List.set_cons_succ]
      rw [mapW_upd (by decide)]
      exact hA.s3 hi
    focus
      obtain ⟨d0, _⟩ := hd
      obtain rfl := hA.h3 d0
      obtain ⟨c0, c1, d0, d1, d2⟩ := HKP.out _ hA.hb
      go_simp
      refine hK.out _ _ ⟨y5, y6, y7, (.pointer (some ⟨w.heap.size, 1, none⟩)), (.slice a f.lots.length cap), y10, y11, y12, y13, y14, ?_, ?_⟩
      focus simp only [Act.put, List.setIfInBounds_toArray, List.set_cons_zero, List.set_cons_succ]
      rw [mapW_upd (by decide)]
      exact hA.s4 hi
    focus
      obtain ⟨d2, d4, _⟩ := hd
      obtain rfl := hA.h4 d4
      refine step_append_lots ?_ (.tmp 7) (.tmp 9) ?_ (C := w1.heap.size) (v := y7) (vx := .slice a f.lots.length cap) (xs := []) (ys := f.lots) ?_ ?_ ?_ ?_ ?_ ?_ ?_
      focus rfl
      focus rfl
      focus rfl
      focus exact hA.h2 d2 hi
      focus rfl
      focus exact HSF.out _ hA.hb
      focus (simp; omega)
      focus exact hA.size
      intro v5 w5 ho5 hg5 hat5
      refine hK.out _ _ ⟨y5, y6, y7, y8, (.slice a f.lots.length cap), v5, y11, y12, y13, y14, ?_, ?_⟩
      focus simp only [Act.put, List.setIfInBounds_toArray, List.set_cons_zero, List.set_cons_succ]
      rw [mapW_upd (by decide)]
      exact hA.s5 hi d2 (by simpa using ho5) hg5 hat5
    focus
      obtain ⟨c0, c1, d0, d1, d2⟩ := HKP.out _ hA.hb
      go_simp
      refine hK.out _ _ ⟨y5, y6, y7, y8, y9, y10, (.agg #[.slice ai x.ins.length capi, .bool x.known, .slice ap x.perm.length capp]), y12, y13, y14, ?_, ?_⟩
      focus simp only [Act.put, List.setIfInBounds_toArray, List.set_cons_zero, List.set_cons_succ]
      rw [mapW_upd (by decide)]
      exact hA.s6 hi
    focus
      obtain ⟨d6, _⟩ := hd
      obtain rfl := hA.h6 d6
      go_simp
      refine hK.out _ _ ⟨y5, y6, y7, y8, y9, y10, (.agg #[.slice ai x.ins.length capi, .bool x.known, .slice ap x.perm.length capp]), (.slice (some ⟨w'.heap.size, 0, none⟩) 1 1), y13, y14, ?_, ?_⟩
      focus simp only [Act.put, List.setIfInBounds_toArray, List.set_cons_zero, List.set_cons_succ]
      rw [mapW_upd (by decide)]
      exact hA.s7 hi _
    focus
      obtain ⟨d5, d7, _⟩ := hd
      obtain ⟨g, rfl, hg1, hg2, hg3, hg4⟩ := hA.h7 d7 hi
      have hsrc := srcLots_one (c := 1) (hg2.cell 0) (hg2.cell 1) (hg2.cell 2) (HIL.out _ hA.hb)
      refine step_append_lots ?_ (.tmp 10) (.tmp 12) ?_ (C := w1.heap.size) (v := y10) (vx := .slice (some ⟨g, 0, none⟩) 1 1) (xs := f.lots) (ys := [x]) ?_ ?_ ?_ ?_ ?_ ?_ ?_
      focus rfl
      focus rfl
      focus rfl
      focus exact hA.h5 d5 hi
      focus rfl
      focus exact hsrc
      focus (simp; omega)
      focus exact hA.size
      intro v5 w5 ho5 hg5 hat5
      refine hK.out _ _ ⟨y5, y6, y7, y8, y9, y10, y11, (.slice (some ⟨g, 0, none⟩) 1 1), v5, y14, ?_, ?_⟩
      focus simp only [Act.put, List.setIfInBounds_toArray, List.set_cons_zero, List.set_cons_succ]
      rw [mapW_upd (by decide)]
      exact hA.s8 hi d5 d7 ho5 hg5 hat5
    focus
      obtain ⟨d1, d8, _⟩ := hd
      obtain rfl := hA.h1 d1
      obtain ⟨n6, c6, a6, rfl⟩ : ∃ n c a, y13 = .slice a n c := by obtain ⟨a6, c6, e⟩ := (hA.h8 d8).form; exact ⟨_, _, _, e⟩
      go_simp
      refine hK.out _ _ ⟨y5, (.int .i64 f.senders), y7, y8, y9, y10, y11, y12, (.slice a6 n6 c6), (.agg #[.int .i64 f.senders, .slice a6 n6 c6]), ?_, ?_⟩
      focus simp only [Act.put, List.setIfInBounds_toArray, List.set_cons_zero, List.set_cons_succ]
      rw [mapW_upd (by decide)]
      exact hA.s9 hi d8
    focus
      obtain ⟨d9, d8, d0, d1, d2, d3, d4, d5, d6, d7, d8', d9', _⟩ := hd
      obtain ⟨p, e1, e2, e3, e4, e5, e6⟩ := hA.h10 rfl hi
      have hpw : w.heap.size + 1 + 1 = p := by simpa using e1
      subst hpw
      obtain rfl := hA.h9 d9
      obtain ⟨n6, c6, a6, rfl⟩ : ∃ n c a, y13 = .slice a n c := by obtain ⟨a6, c6, e⟩ := (hA.h8 d8).form; exact ⟨_, _, _, e⟩
      have m0 := e3.cell 0
      have m1 := e3.cell 1
      have g0 := e3.free 0
      have g1 := e3.free 1
      simp at m0 m1
      go_simp
      refine hK.out _ _ ⟨y5, y6, y7, y8, y9, y10, y11, y12, (.slice a6 n6 c6), (.agg #[.int .i64 f.senders, .slice a6 n6 c6]), ?_, ?_⟩
      focus simp only [Act.put, List.setIfInBounds_toArray, List.set_cons_zero, List.set_cons_succ]
      rw [mapW_last]
      exact hA.s11 hi d9 rfl (fun i hi => by rcases (by omega : i = 0 ∨ i = 1 ∨ i = 2 ∨ i = 3 ∨ i = 4 ∨ i = 5 ∨ i = 6 ∨ i = 7 ∨ i = 8 ∨ i = 9 ∨ i = 10) with rfl | rfl | rfl | rfl | rfl | rfl | rfl | rfl | rfl | rfl | rfl <;> first | rfl | assumption) rfl rfl
  focus
    intro L a' w' hall hI
    obtain ⟨y5, y6, y7, y8, y9, y10, y11, y12, y13, y14, he, hA⟩ := hI
    simp only [Act.put, List.setIfInBounds_toArray, List.set_cons_zero, List.set_cons_succ] at he
    subst he
    obtain ⟨p, n, c, a5, e1, hp1, hp2, ho, hbw⟩ := hA.h11 (hall 10 (by decide))
    have hpw : w.heap.size + 1 + 1 = p := by simpa using e1
    subst hpw
    clear hA hall e1
    have m0 := hp2.cell 0
    have m1 := hp2.cell 1
    simp at m0 m1
    have HG := Lib.hid (ho.isLots hbw.size)
    have HBW := Lib.hid hbw
    clear ho hbw hp2
    go_wp2
    exact bodyPost_ret (v := .agg #[.int .i64 f.senders, .slice a5 n c]) (by simp [results, Try.results26, go_sem, m0, m1]) rfl ⟨_, rfl, ⟨rfl, ⟨hs1, hs2⟩, HG.out⟩, HW1.out.trans (HBW.out.mono HW1.out.size)⟩

end Go.Proofs.Ythekefnocphcdaa

set_option linter.unusedVariables false

set_option linter.unusedSimpArgs false

namespace Go.Proofs.Ythekefnocphcdaa

theorem asg_ext (f : Flow) (x : Lot) : ∀ j, j ≤ f.lots.length → asgTo (extF f x) j = asgTo f j
  | 0, _ => rfl
  | j + 1, h => by
    have e : outsL (extF f x) j = outsL f j := by
      funext p
      unfold outsL
      rw [show lotAt (extF f x).lots j = lotAt f.lots j from lotAt_left (by omega), beforeI_ext f x (by omega)]
    simp only [asgTo]
    rw [asg_ext f x j (by omega), e]

theorem ins_le {f : Flow} (h0 : 0 ≤ f.senders) {k : Nat} (hl : lotsB f (k + 1) = true) : (lotAt f.lots k).ins.length ≤ f.senders.toNat := by
  have hl' : lotsB f k = true := by simp only [lotsB, Bool.and_eq_true] at hl; exact hl.1
  have hlot := lotsB_lot hl (show k < k + 1 by omega)
  obtain ⟨p, hp⟩ := List.exists_mem_of_ne_nil _ (asg_ne h0 k hl')
  obtain ⟨_, hnd, hin, _⟩ := lotB_parts hlot
  have hA := asg_all h0 k hl' p hp
  rw [← asg_len k p hp]
  exact nodup_len hnd fun x hx => (hA.2 x).2 (hin x hx)

theorem before_le {f : Flow} (h0 : 0 ≤ f.senders) (h5 : f.senders ≤ 5) : ∀ k : Nat, lotsB f k = true → beforeI f k ≤ 5 + 5 * (k : Int)
  | 0, _ => by simp only [beforeI]; omega
  | k + 1, hl => by
    have hl' : lotsB f k = true := by simp only [lotsB, Bool.and_eq_true] at hl; exact hl.1
    have h1 := before_le h0 h5 k hl'
    have h2 := ins_le h0 hl
    simp only [beforeI]
    omega

theorem ext_lotB {f : Flow} {x : Lot} (h1 : x.ins ≠ []) (h2 : diffB x.ins = true) (h3 : ∀ y ∈ x.ins, y ∈ endsL f) (h4 : (if x.known then permB x.perm x.ins.length else decide (x.perm = [])) = true) :
    lotB (extF f x) f.lots.length = true := by
  unfold lotB
  simp only [ext_at, beforeI_ext f x (Nat.le_refl _), goneB_ext f x _ (Nat.le_refl _)]
  rw [h4, h2]
  simp only [Bool.and_true, Bool.and_eq_true, decide_eq_true_eq, List.all_eq_true, Bool.not_eq_true']
  exact ⟨h1, fun y hy => by obtain ⟨a, b, c⟩ := mem_endsL.1 (h3 y hy); exact ⟨⟨a, b⟩, c⟩⟩

theorem extk_check {f : Flow} {x : Lot} (hc : checkE f = 0) (h5 : f.senders ≤ 5) (h10 : f.lots.length ≤ 10) (hx : lotB (extF f x) f.lots.length = true) : checkE (extF f x) = 0 := by
  obtain ⟨h0, _, _, _, hl⟩ := checkE_ok hc
  have hL : lotsB (extF f x) (f.lots.length + 1) = true := by
    simp only [lotsB, Bool.and_eq_true]
    exact ⟨by rw [lotsB_ext f x (Nat.le_refl _)]; exact hl, hx⟩
  have hb := before_le (f := extF f x) h0 h5 _ hL
  unfold checkE
  rw [ext_len]
  have hs : (extF f x).senders = f.senders := rfl
  rw [if_neg (by rw [hs]; omega), if_neg (by rw [hs]; omega), if_pos hL]

theorem count_ext {f : Flow} {x : Lot} (hc : checkE f = 0) (h5 : f.senders ≤ 5) (h10 : f.lots.length ≤ 10) (hx : lotB (extF f x) f.lots.length = true) :
    allE (extF f x) = 0 ∧ countR f ≤ countR (extF f x) ∧ countR (extF f x) ≤ countR f * (permsOf x).length := by
  have hc' := extk_check hc h5 h10 hx
  have ha := allE_few hc h5
  have ha' : allE (extF f x) = 0 := allE_few hc' h5
  obtain ⟨h0, _, _, _, hl⟩ := checkE_ok hc'
  rw [ext_len] at hl
  have hg := asg_grow h0 hl
  rw [ext_at, asg_ext f x _ (Nat.le_refl _)] at hg
  have e1 : countR f = ((asgTo f f.lots.length).length : Int) := by unfold countR allR; rw [if_pos ha]; rfl
  have e2 : countR (extF f x) = ((asgTo (extF f x) (f.lots.length + 1)).length : Int) := by unfold countR allR; rw [if_pos ha', asgL, ext_len]
  refine ⟨ha', by omega, ?_⟩
  rw [e1, e2]
  exact_mod_cast hg.2

theorem fur_one {f : Flow} {a : Int} (kn : Bool) (hc : checkE f = 0) (h5 : f.senders ≤ 5) (h10 : f.lots.length ≤ 10) (ha : a ∈ endsL f) :
    allE (extF f ⟨[a], kn, if kn then [0] else []⟩) = 0 ∧ countR (extF f ⟨[a], kn, if kn then [0] else []⟩) = countR f := by
  obtain ⟨h1, h2, h3⟩ := count_ext hc h5 h10 (x := ⟨[a], kn, if kn then [0] else []⟩) (ext_lotB (by simp) rfl (fun y hy => by obtain rfl := List.mem_singleton.1 hy; exact ha) (by cases kn <;> rfl))
  have e : (permsOf ⟨[a], kn, if kn then [0] else []⟩).length = 1 := by cases kn <;> rfl
  rw [e] at h3
  exact ⟨h1, by omega⟩

theorem diff_two {a b : Int} (h : a ≠ b) : diffB [a, b] = true := by
  have h' : b ≠ a := fun e => h e.symm
  unfold diffB
  simp [h, h']

theorem fur_known {f : Flow} {a b : Int} (hc : checkE f = 0) (h5 : f.senders ≤ 5) (h10 : f.lots.length ≤ 10) (ha : a ∈ endsL f) (hb : b ∈ endsL f) (hab : a ≠ b) :
    allE (extF f ⟨[a, b], true, [1, 0]⟩) = 0 ∧ countR (extF f ⟨[a, b], true, [1, 0]⟩) = countR f := by
  obtain ⟨h1, h2, h3⟩ := count_ext hc h5 h10 (x := ⟨[a, b], true, [1, 0]⟩) (ext_lotB (by simp) (diff_two hab) (fun y hy => by
    rcases List.mem_cons.1 hy with rfl | hy
    · exact ha
    · obtain rfl := List.mem_singleton.1 hy; exact hb) (by rfl))
  have e : (permsOf ⟨[a, b], true, [1, 0]⟩).length = 1 := rfl
  rw [e] at h3
  exact ⟨h1, by omega⟩

theorem fur_open {f : Flow} {a b : Int} (hc : checkE f = 0) (h5 : f.senders ≤ 5) (h10 : f.lots.length ≤ 10) (ha : a ∈ endsL f) (hb : b ∈ endsL f) (hab : a ≠ b) :
    allE (extF f ⟨[a, b], false, []⟩) = 0 ∧ countR f ≤ countR (extF f ⟨[a, b], false, []⟩) ∧ countR (extF f ⟨[a, b], false, []⟩) ≤ 2 * countR f := by
  obtain ⟨h1, h2, h3⟩ := count_ext hc h5 h10 (x := ⟨[a, b], false, []⟩) (ext_lotB (by simp) (diff_two hab) (fun y hy => by
    rcases List.mem_cons.1 hy with rfl | hy
    · exact ha
    · obtain rfl := List.mem_singleton.1 hy; exact hb) (by rfl))
  have e : (permsOf ⟨[a, b], false, []⟩).length = 2 := permsL_len 2
  rw [e] at h3
  exact ⟨h1, h2, by omega⟩

end Go.Proofs.Ythekefnocphcdaa

set_option linter.unusedVariables false

set_option linter.unusedSimpArgs false

namespace Go.Proofs.Ythekefnocphcdaa

open Go.RowKit

set_option maxHeartbeats 8000000 in
set_option maxRecDepth 100000 in
/-- CountFurther -/
theorem countFurther_any (B : Nat) (w : World) (vs vl : Value) (f : Flow) (at0 ot0 : Nat) (kn : Bool) (h1 : at0 < 256) (h2 : ot0 < 256) (hf : IsFlow B w vs vl f) (hB : B ≤ w.heap.size) :
    Calls Try.prog 6 #[.agg #[vs, vl], .int .u8 at0, .int .u8 ot0, .bool kn] w fun e w' => e = .returned (.bool true) ∧ Below w.heap.size w w' := by
  have HF := Lib.hid hf
  obtain ⟨rfl, ⟨hs1, hs2⟩, hl⟩ := hf
  obtain ⟨b, off, cap, ⟨a, rfl, hcap, hmax, ha⟩, hlen, hc⟩ := hl
  clear hc ha
  go_enter Try.func6, Try.ntmps6
  go_wp2_with fail
  refine (sane27_any _).mono ?_
  rintro e w1 ⟨rfl, hb1⟩
  have HX1 := Lib.hid ((Box.new w #[.int .i64 f.senders, .slice a f.lots.length cap] 24).ext hb1)
  have HW1 : Hid (Below w.heap.size w w1) := Lib.hid ((box_below' w _).trans (hb1.mono (by simp)))
  obtain ⟨z1, r1⟩ := HX1.out
  clear hb1
  go_wp2_with fail
  refine (few27_any B w1 _ _ f (HF.out.below HW1.out hB) (Nat.le_trans hB HW1.out.size)).mono ?_
  rintro e w2 ⟨rfl, hb2⟩
  have HX2 := Lib.hid (HX1.out.ext hb2)
  have HW2 : Hid (Below w.heap.size w w2) := Lib.hid (HW1.out.trans (hb2.mono HW1.out.size))
  clear hb2 z1 r1
  cases hfew : few27 f
  · clear hfew
    go_wp2
    go_ret
    exact ⟨rfl, HW2.out⟩
  · have HFW := Lib.hid hfew
    clear hfew
    by_cases h10 : 10 < f.lots.length
    · have h10' : decide (10 < (f.lots.length : Int)) = true := decide_eq_true (by omega)
      obtain ⟨z2, r2⟩ := HX2.out
      go_wp2
      go_ret
      exact ⟨rfl, HW2.out⟩
    · have h10' : decide (10 < (f.lots.length : Int)) = false := decide_eq_false (by omega)
      have H10 : Hid (f.lots.length ≤ 10) := Lib.hid (by omega)
      clear h10
      obtain ⟨z2, r2⟩ := HX2.out
      go_wp2_with fail
      refine (ccount_any B w2 _ _ f (HF.out.below HW2.out hB) (Nat.le_trans hB HW2.out.size)).mono ?_
      rintro e w3 ⟨rfl, hb3⟩
      have HX3 := Lib.hid (HX2.out.ext hb3)
      have HW3 : Hid (Below w.heap.size w w3) := Lib.hid (HW2.out.trans (hb3.mono HW2.out.size))
      clear hb3 z2 r2
      obtain ⟨z3, r3⟩ := HX3.out
      go_wp2_with fail
      refine (ends25_any B w3 _ _ f (HF.out.below HW3.out hB) (Nat.le_trans hB HW3.out.size)).mono ?_
      rintro e w4 ⟨v4, rfl, ho4, hb4⟩
      have HX4 := Lib.hid (HX3.out.ext hb4)
      have HW4 : Hid (Below w.heap.size w w4) := Lib.hid (HW3.out.trans (hb4.mono HW3.out.size))
      have HE4 := Lib.hid ho4.isInts
      clear ho4
      clear hb4 z3 r3
      by_cases hall : allE f = 0
      · have hck : checkE f = 0 := by
          by_cases hc : checkE f = 0
          · exact hc
          · unfold allE at hall
            rw [if_pos hc] at hall
            exact hall
        have h5 : f.senders ≤ 5 := by
          have h := HFW.out
          unfold few27 at h
          simp at h
          unfold allE at hall
          rw [if_neg (by simp [hck])] at hall
          split at hall
          · omega
          · omega
        have HER : Hid (endsR f = endsL f) := Lib.hid (by unfold endsR; rw [if_pos hck])
        have HCK := Lib.hid hck
        have H5 := Lib.hid h5
        have HLN : Hid (((endsL f).length : Int) = f.senders) := Lib.hid (ends_len hck)
        rw [hall, hck]
        rw [HER.out] at HE4
        clear hall hck h5
        obtain ⟨cc, hcc⟩ : ∃ x, countR f = x := ⟨_, rfl⟩
        rw [hcc]
        by_cases hz : (endsL f).length = 0
        · obtain ⟨a4, c4, rfl⟩ := HE4.out.form
          rw [hz]
          obtain ⟨z4, r4⟩ := HX4.out
          clear hcc
          go_wp2
          go_ret
          exact ⟨rfl, HW4.out⟩
        · have hz' : (((endsL f).length : Int) == 0) = false := beq_eq_false_iff_ne.2 (by omega)
          obtain ⟨E, hE⟩ : ∃ E, endsL f = E := ⟨_, rfl⟩
          have HEE := Lib.hid hE
          rw [hE] at hz hz' HE4
          obtain ⟨be, oe, ce, ⟨ae, rfl, hcape, hmaxe, hae⟩, hlene, hze, hce⟩ := HE4.out
          obtain rfl : ae = some ⟨be, oe, none⟩ := by rcases hae with h | h; exact h; omega
          have ha1 : at0 % E.length < E.length := Nat.mod_lt _ (by omega)
          have ha2 : ot0 % E.length < E.length := Nat.mod_lt _ (by omega)
          have hm1 : ((at0 : Int).tmod (E.length : Int)) = ((at0 % E.length : Nat) : Int) := by rw [Int.ofNat_tmod]
          have hm2 : ((ot0 : Int).tmod (E.length : Int)) = ((ot0 % E.length : Nat) : Int) := by rw [Int.ofNat_tmod]
          have HZE := Lib.hid hze
          have q1 := (hce _ ha1).2
          have q2 := (hce _ ha2).2
          clear hce hae hze hE hz
          have hA : nth E (at0 % E.length) ∈ endsL f := by rw [HEE.out]; exact nth_mem' ha1
          have hBm : nth E (ot0 % E.length) ∈ endsL f := by rw [HEE.out]; exact nth_mem' ha2
          have HF1 := Lib.hid (fur_one (f := f) (a := nth E (at0 % E.length)) kn HCK.out H5.out H10.out hA)
          have HF2 := Lib.hid (fun h => fur_known (f := f) (a := nth E (at0 % E.length)) (b := nth E (ot0 % E.length)) HCK.out H5.out H10.out hA hBm h)
          have HF3 := Lib.hid (fun h => fur_open (f := f) (a := nth E (at0 % E.length)) (b := nth E (ot0 % E.length)) HCK.out H5.out H10.out hA hBm h)
          have hcb : 0 ≤ cc ∧ cc ≤ 5040 := by
            obtain ⟨h0, _, _, _, hl⟩ := checkE_ok HCK.out
            have h := asg_few h0 H5.out hl
            rw [← hcc]
            unfold countR allR
            rw [if_pos (allE_few HCK.out H5.out)]
            exact ⟨by omega, by unfold asgL; omega⟩
          obtain ⟨hcb1, hcb2⟩ := hcb
          have HI1 : Hid (I64 (nth E (at0 % E.length))) := Lib.hid (HZE.out _ (nth_mem' ha1))
          have HI2 : Hid (I64 (nth E (ot0 % E.length))) := Lib.hid (HZE.out _ (nth_mem' ha2))
          rw [hcc] at HF1 HF2 HF3
          clear hA hBm hcc HEE HZE
          obtain ⟨z4, r4⟩ := HX4.out
          cases kn
          · have HF1' : Hid (allE (extF f ⟨[nth E (at0 % E.length)], false, []⟩) = 0 ∧ countR (extF f ⟨[nth E (at0 % E.length)], false, []⟩) = cc) := Lib.hid HF1.out
            clear HF1
            go_upto_region 14 with fail
            obtain ⟨wt, hwt⟩ : ∃ W, W = ((w4.alloc (Obj.cells #[Value.int IntKind.i64 (nth E (at0 % E.length))] 3)).alloc (Obj.cells #[Value.slice (some ⟨w4.heap.size, 0, none⟩) 1 1, Value.bool false, (Value.slice none 0 0)] 39)) := ⟨_, rfl⟩
            have HTS : Hid (wt.heap.size = w4.heap.size + 2) := Lib.hid (by rw [hwt]; simp)
            have HTB : Hid (Below w4.heap.size w4 wt) := Lib.hid (by rw [hwt]; exact ((Below.refl w4.heap.size w4).alloc (Nat.le_refl _) _ |>.alloc (by simp) _))
            have HB1 : Hid (Box wt w4.heap.size #[.int .i64 (nth E (at0 % E.length))]) := Lib.hid (by rw [hwt]; exact (Box.new w4 #[.int .i64 (nth E (at0 % E.length))] 3).alloc (Obj.cells #[Value.slice (some ⟨w4.heap.size, 0, none⟩) 1 1, Value.bool false, (Value.slice none 0 0)] 39))
            have HB2 : Hid (Box wt (w4.heap.size + 1) #[.slice (some ⟨w4.heap.size, 0, none⟩) 1 1, .bool false, (Value.slice none 0 0)]) := Lib.hid (by have h := Box.new (w4.alloc (Obj.cells #[Value.int IntKind.i64 (nth E (at0 % E.length))] 3)) #[Value.slice (some ⟨w4.heap.size, 0, none⟩) 1 1, Value.bool false, (Value.slice none 0 0)] 39; rw [World.size_alloc] at h; rw [hwt]; exact h)
            rw [← hwt]
            clear hwt
            have HWt : Hid (Below w.heap.size w wt) := Lib.hid (HW4.out.trans (HTB.out.mono HW4.out.size))
            have HXt := Lib.hid (HX4.out.below HTB.out z4)
            have HLX : Hid (IsLot wt.heap.size wt (.slice (some ⟨w4.heap.size, 0, none⟩) 1 1) (.bool false) (Value.slice none 0 0) ⟨[nth E (at0 % E.length)], false, []⟩) := Lib.hid ⟨litInts (b := w4.heap.size) (xs := [nth E (at0 % E.length)]) rfl (by simp) (by omega) (by intro y hy; obtain rfl := List.mem_singleton.1 hy; exact HI1.out) (by rw [HTS.out]; omega) HB1.out, rfl, noInts⟩
            clear r4 z4
            obtain ⟨z4, r4⟩ := HXt.out
            obtain ⟨z5, r5⟩ := HB2.out
            have d0 := r5 0
            have d1 := r5 1
            have d2 := r5 2
            simp at d0 d1 d2
            clear r5 z5
            go_wp2_with fail
            refine (with27_any wt.heap.size wt _ _ _ _ _ f ⟨[nth E (at0 % E.length)], false, []⟩ ((HF.out.below HWt.out hB).mono (Nat.le_trans hB HWt.out.size)) HLX.out (by have := H10.out; omega) (Nat.le_refl _)).mono ?_
            rintro e w5 ⟨v5, rfl, hf5, hb5⟩
            have HFX := Lib.hid hf5
            obtain ⟨_, _, b5, o5, c5, ⟨a5, rfl, _⟩, _⟩ := hf5
            have HX5 := Lib.hid (HXt.out.below hb5 z4)
            have HW5 : Hid (Below w.heap.size w w5) := Lib.hid (HWt.out.trans (hb5.mono HWt.out.size))
            clear hb5 r4 z4 d0 d1 d2
            obtain ⟨z5, r5⟩ := HX5.out
            go_wp2_with fail
            refine (ccount_any w5.heap.size w5 _ _ _ HFX.out (Nat.le_refl _)).mono ?_
            rintro e w6 ⟨rfl, hb6⟩
            have HX6 := Lib.hid (HX5.out.ext hb6)
            have HW6 : Hid (Below w.heap.size w w6) := Lib.hid (HW5.out.trans (hb6.mono HW5.out.size))
            rw [HF1'.out.1, HF1'.out.2]
            clear hb6 r5 z5 HF1'
            obtain ⟨z6, r6⟩ := HX6.out
            by_cases hab : nth E (at0 % E.length) = nth E (ot0 % E.length)
            · have hab' : (nth E (at0 % E.length) == nth E (ot0 % E.length)) = true := beq_iff_eq.2 hab
              clear hab
              go_wp2
              go_ret
              exact ⟨rfl, HW6.out⟩
            · have hab' : (nth E (at0 % E.length) == nth E (ot0 % E.length)) = false := beq_eq_false_iff_ne.2 hab
              have HK2 := Lib.hid (HF2.out hab)
              have HK3 := Lib.hid (HF3.out hab)
              clear hab HF2 HF3
              have HT6 : Hid (Below w6.heap.size w6 ((w6.alloc (Obj.cells #[Value.int IntKind.i64 (nth E (at0 % E.length)), Value.int IntKind.i64 (nth E (ot0 % E.length))] 3)).alloc (Obj.cells #[Value.int IntKind.i64 1, Value.int IntKind.i64 0] 3))) := Lib.hid ((Below.refl w6.heap.size w6).alloc (Nat.le_refl _) _ |>.alloc (by simp) _)
              have HW6' : Hid (Below w.heap.size w ((w6.alloc (Obj.cells #[Value.int IntKind.i64 (nth E (at0 % E.length)), Value.int IntKind.i64 (nth E (ot0 % E.length))] 3)).alloc (Obj.cells #[Value.int IntKind.i64 1, Value.int IntKind.i64 0] 3))) := Lib.hid (HW6.out.trans (HT6.out.mono HW6.out.size))
              have HX6' := Lib.hid ((HX6.out.alloc (Obj.cells #[Value.int IntKind.i64 (nth E (at0 % E.length)), Value.int IntKind.i64 (nth E (ot0 % E.length))] 3)).alloc (Obj.cells #[Value.int IntKind.i64 1, Value.int IntKind.i64 0] 3))
              have HL6 : Hid (IsLot ((w6.alloc (Obj.cells #[Value.int IntKind.i64 (nth E (at0 % E.length)), Value.int IntKind.i64 (nth E (ot0 % E.length))] 3)).alloc (Obj.cells #[Value.int IntKind.i64 1, Value.int IntKind.i64 0] 3)).heap.size ((w6.alloc (Obj.cells #[Value.int IntKind.i64 (nth E (at0 % E.length)), Value.int IntKind.i64 (nth E (ot0 % E.length))] 3)).alloc (Obj.cells #[Value.int IntKind.i64 1, Value.int IntKind.i64 0] 3)) (.slice (some ⟨w6.heap.size, 0, none⟩) 2 2) (.bool true) (.slice (some ⟨w6.heap.size + 1, 0, none⟩) 2 2) ⟨[nth E (at0 % E.length), nth E (ot0 % E.length)], true, [1, 0]⟩) :=
                Lib.hid ⟨litInts (b := w6.heap.size) (xs := [nth E (at0 % E.length), nth E (ot0 % E.length)]) rfl (by simp) (by omega) (by intro y hy; rcases List.mem_cons.1 hy with rfl | hy; exact HI1.out; obtain rfl := List.mem_singleton.1 hy; exact HI2.out) (by simp; omega) ((Box.new w6 #[.int .i64 (nth E (at0 % E.length)), .int .i64 (nth E (ot0 % E.length))] 3).alloc _), rfl,
                  litInts (b := w6.heap.size + 1) (xs := [1, 0]) rfl (by simp) (by omega) (by simp [I64]) (by simp) (by have h := Box.new (w6.alloc (Obj.cells #[Value.int IntKind.i64 (nth E (at0 % E.length)), Value.int IntKind.i64 (nth E (ot0 % E.length))] 3)) #[.int .i64 1, .int .i64 0] 3; rw [World.size_alloc] at h; exact h)⟩
              go_wp2_with fail
              refine (with27_any _ ((w6.alloc (Obj.cells #[Value.int IntKind.i64 (nth E (at0 % E.length)), Value.int IntKind.i64 (nth E (ot0 % E.length))] 3)).alloc (Obj.cells #[Value.int IntKind.i64 1, Value.int IntKind.i64 0] 3)) _ _ _ _ _ f ⟨[nth E (at0 % E.length), nth E (ot0 % E.length)], true, [1, 0]⟩ ((HF.out.below HW6'.out hB).mono (Nat.le_trans hB HW6'.out.size)) HL6.out (by have := H10.out; omega) (Nat.le_refl _)).mono ?_
              rintro e w7 ⟨v7, rfl, hf7, hb7⟩
              have HFX7 := Lib.hid hf7
              obtain ⟨_, _, b7, o7, c7, ⟨a7, rfl, _⟩, _⟩ := hf7
              have HX7 := Lib.hid (HX6'.out.ext hb7)
              have HW7 : Hid (Below w.heap.size w w7) := Lib.hid (HW6'.out.trans (hb7.mono HW6'.out.size))
              clear hb7 r6 z6 HT6 HW6' HX6' HL6
              obtain ⟨z7, r7⟩ := HX7.out
              go_wp2_with fail
              refine (ccount_any w7.heap.size w7 _ _ _ HFX7.out (Nat.le_refl _)).mono ?_
              rintro e w8 ⟨rfl, hb8⟩
              have HX8 := Lib.hid (HX7.out.ext hb8)
              have HW8 : Hid (Below w.heap.size w w8) := Lib.hid (HW7.out.trans (hb8.mono HW7.out.size))
              rw [HK2.out.1, HK2.out.2]
              clear hb8 r7 z7 HK2
              obtain ⟨z8, r8⟩ := HX8.out
              have HT8 : Hid (Below w8.heap.size w8 (w8.alloc (Obj.cells #[Value.int IntKind.i64 (nth E (at0 % E.length)), Value.int IntKind.i64 (nth E (ot0 % E.length))] 3))) := Lib.hid ((Below.refl w8.heap.size w8).alloc (Nat.le_refl _) _)
              have HW8' : Hid (Below w.heap.size w (w8.alloc (Obj.cells #[Value.int IntKind.i64 (nth E (at0 % E.length)), Value.int IntKind.i64 (nth E (ot0 % E.length))] 3))) := Lib.hid (HW8.out.trans (HT8.out.mono HW8.out.size))
              have HX8' := Lib.hid (HX8.out.alloc (Obj.cells #[Value.int IntKind.i64 (nth E (at0 % E.length)), Value.int IntKind.i64 (nth E (ot0 % E.length))] 3))
              have HL8 : Hid (IsLot (w8.alloc (Obj.cells #[Value.int IntKind.i64 (nth E (at0 % E.length)), Value.int IntKind.i64 (nth E (ot0 % E.length))] 3)).heap.size (w8.alloc (Obj.cells #[Value.int IntKind.i64 (nth E (at0 % E.length)), Value.int IntKind.i64 (nth E (ot0 % E.length))] 3)) (.slice (some ⟨w8.heap.size, 0, none⟩) 2 2) (.bool false) (.slice none 0 0) ⟨[nth E (at0 % E.length), nth E (ot0 % E.length)], false, []⟩) :=
                Lib.hid ⟨litInts (b := w8.heap.size) (xs := [nth E (at0 % E.length), nth E (ot0 % E.length)]) rfl (by simp) (by omega) (by intro y hy; rcases List.mem_cons.1 hy with rfl | hy; exact HI1.out; obtain rfl := List.mem_singleton.1 hy; exact HI2.out) (by simp) (Box.new w8 #[.int .i64 (nth E (at0 % E.length)), .int .i64 (nth E (ot0 % E.length))] 3), rfl, noInts⟩
              go_wp2_with fail
              refine (with27_any _ (w8.alloc (Obj.cells #[Value.int IntKind.i64 (nth E (at0 % E.length)), Value.int IntKind.i64 (nth E (ot0 % E.length))] 3)) _ _ _ _ _ f ⟨[nth E (at0 % E.length), nth E (ot0 % E.length)], false, []⟩ ((HF.out.below HW8'.out hB).mono (Nat.le_trans hB HW8'.out.size)) HL8.out (by have := H10.out; omega) (Nat.le_refl _)).mono ?_
              rintro e w9 ⟨v9, rfl, hf9, hb9⟩
              have HFX9 := Lib.hid hf9
              obtain ⟨_, _, b9, o9, c9, ⟨a9, rfl, _⟩, _⟩ := hf9
              have HX9 := Lib.hid (HX8'.out.ext hb9)
              have HW9 : Hid (Below w.heap.size w w9) := Lib.hid (HW8'.out.trans (hb9.mono HW8'.out.size))
              clear hb9 r8 z8 HT8 HW8' HX8' HL8
              obtain ⟨z9, r9⟩ := HX9.out
              go_wp2_with fail
              refine (ccount_any w9.heap.size w9 _ _ _ HFX9.out (Nat.le_refl _)).mono ?_
              rintro e w10 ⟨rfl, hb10⟩
              have HW10 : Hid (Below w.heap.size w w10) := Lib.hid (HW9.out.trans (hb10.mono HW9.out.size))
              obtain ⟨k1, k2, k3⟩ := HK3.out
              rw [k1]
              obtain ⟨uu, huu⟩ : ∃ x, countR (extF f ⟨[nth E (at0 % E.length), nth E (ot0 % E.length)], false, []⟩) = x := ⟨_, rfl⟩
              rw [huu] at k2 k3 ⊢
              have k2' : decide (cc ≤ uu) = true := decide_eq_true k2
              have k3' : decide (uu ≤ 2 * cc) = true := decide_eq_true k3
              clear hb10 r9 z9 HK3 k1 huu
              go_wp2
              go_ret
              exact ⟨rfl, HW10.out⟩
          · have HF1' : Hid (allE (extF f ⟨[nth E (at0 % E.length)], true, [0]⟩) = 0 ∧ countR (extF f ⟨[nth E (at0 % E.length)], true, [0]⟩) = cc) := Lib.hid HF1.out
            clear HF1
            go_upto_region 14 with fail
            obtain ⟨wt, hwt⟩ : ∃ W, W = (((w4.alloc (Obj.cells #[Value.int IntKind.i64 (nth E (at0 % E.length))] 3)).alloc (Obj.cells #[Value.slice (some ⟨w4.heap.size, 0, none⟩) 1 1, Value.bool true, (Value.slice (some ⟨w4.heap.size + 1 + 1, 0, none⟩) 1 1)] 39)).alloc (Obj.cells #[Value.int IntKind.i64 0] 3)) := ⟨_, rfl⟩
            have HTS : Hid (wt.heap.size = w4.heap.size + 3) := Lib.hid (by rw [hwt]; simp)
            have HTB : Hid (Below w4.heap.size w4 wt) := Lib.hid (by rw [hwt]; exact (((Below.refl w4.heap.size w4).alloc (Nat.le_refl _) _ |>.alloc (by simp) _).alloc (by simp; omega) _))
            have HB1 : Hid (Box wt w4.heap.size #[.int .i64 (nth E (at0 % E.length))]) := Lib.hid (by rw [hwt]; exact ((Box.new w4 #[.int .i64 (nth E (at0 % E.length))] 3).alloc (Obj.cells #[Value.slice (some ⟨w4.heap.size, 0, none⟩) 1 1, Value.bool true, (Value.slice (some ⟨w4.heap.size + 1 + 1, 0, none⟩) 1 1)] 39)).alloc (Obj.cells #[Value.int IntKind.i64 0] 3))
            have HB2 : Hid (Box wt (w4.heap.size + 1) #[.slice (some ⟨w4.heap.size, 0, none⟩) 1 1, .bool true, (Value.slice (some ⟨w4.heap.size + 1 + 1, 0, none⟩) 1 1)]) := Lib.hid (by have h := (Box.new (w4.alloc (Obj.cells #[Value.int IntKind.i64 (nth E (at0 % E.length))] 3)) #[Value.slice (some ⟨w4.heap.size, 0, none⟩) 1 1, Value.bool true, (Value.slice (some ⟨w4.heap.size + 1 + 1, 0, none⟩) 1 1)] 39).alloc (Obj.cells #[Value.int IntKind.i64 0] 3); rw [World.size_alloc] at h; rw [hwt]; exact h)
            have HB3 : Hid (Box wt (w4.heap.size + 1 + 1) #[.int .i64 0]) := Lib.hid (by have h := Box.new ((w4.alloc (Obj.cells #[Value.int IntKind.i64 (nth E (at0 % E.length))] 3)).alloc (Obj.cells #[Value.slice (some ⟨w4.heap.size, 0, none⟩) 1 1, Value.bool true, (Value.slice (some ⟨w4.heap.size + 1 + 1, 0, none⟩) 1 1)] 39)) #[.int .i64 0] 3; simp only [World.size_alloc] at h; rw [hwt]; exact h)
            rw [← hwt]
            clear hwt
            have HWt : Hid (Below w.heap.size w wt) := Lib.hid (HW4.out.trans (HTB.out.mono HW4.out.size))
            have HXt := Lib.hid (HX4.out.below HTB.out z4)
            have HLX : Hid (IsLot wt.heap.size wt (.slice (some ⟨w4.heap.size, 0, none⟩) 1 1) (.bool true) (Value.slice (some ⟨w4.heap.size + 1 + 1, 0, none⟩) 1 1) ⟨[nth E (at0 % E.length)], true, [0]⟩) := Lib.hid ⟨litInts (b := w4.heap.size) (xs := [nth E (at0 % E.length)]) rfl (by simp) (by omega) (by intro y hy; obtain rfl := List.mem_singleton.1 hy; exact HI1.out) (by rw [HTS.out]; omega) HB1.out, rfl, litInts (b := w4.heap.size + 1 + 1) (xs := [0]) rfl (by simp) (by omega) (by simp [I64]) (by rw [HTS.out]; omega) HB3.out⟩
            clear r4 z4
            obtain ⟨z4, r4⟩ := HXt.out
            obtain ⟨z5, r5⟩ := HB2.out
            have d0 := r5 0
            have d1 := r5 1
            have d2 := r5 2
            simp at d0 d1 d2
            clear r5 z5
            go_wp2_with fail
            refine (with27_any wt.heap.size wt _ _ _ _ _ f ⟨[nth E (at0 % E.length)], true, [0]⟩ ((HF.out.below HWt.out hB).mono (Nat.le_trans hB HWt.out.size)) HLX.out (by have := H10.out; omega) (Nat.le_refl _)).mono ?_
            rintro e w5 ⟨v5, rfl, hf5, hb5⟩
            have HFX := Lib.hid hf5
            obtain ⟨_, _, b5, o5, c5, ⟨a5, rfl, _⟩, _⟩ := hf5
            have HX5 := Lib.hid (HXt.out.below hb5 z4)
            have HW5 : Hid (Below w.heap.size w w5) := Lib.hid (HWt.out.trans (hb5.mono HWt.out.size))
            clear hb5 r4 z4 d0 d1 d2
            obtain ⟨z5, r5⟩ := HX5.out
            go_wp2_with fail
            refine (ccount_any w5.heap.size w5 _ _ _ HFX.out (Nat.le_refl _)).mono ?_
            rintro e w6 ⟨rfl, hb6⟩
            have HX6 := Lib.hid (HX5.out.ext hb6)
            have HW6 : Hid (Below w.heap.size w w6) := Lib.hid (HW5.out.trans (hb6.mono HW5.out.size))
            rw [HF1'.out.1, HF1'.out.2]
            clear hb6 r5 z5 HF1'
            obtain ⟨z6, r6⟩ := HX6.out
            by_cases hab : nth E (at0 % E.length) = nth E (ot0 % E.length)
            · have hab' : (nth E (at0 % E.length) == nth E (ot0 % E.length)) = true := beq_iff_eq.2 hab
              clear hab
              go_wp2
              go_ret
              exact ⟨rfl, HW6.out⟩
            · have hab' : (nth E (at0 % E.length) == nth E (ot0 % E.length)) = false := beq_eq_false_iff_ne.2 hab
              have HK2 := Lib.hid (HF2.out hab)
              have HK3 := Lib.hid (HF3.out hab)
              clear hab HF2 HF3
              have HT6 : Hid (Below w6.heap.size w6 ((w6.alloc (Obj.cells #[Value.int IntKind.i64 (nth E (at0 % E.length)), Value.int IntKind.i64 (nth E (ot0 % E.length))] 3)).alloc (Obj.cells #[Value.int IntKind.i64 1, Value.int IntKind.i64 0] 3))) := Lib.hid ((Below.refl w6.heap.size w6).alloc (Nat.le_refl _) _ |>.alloc (by simp) _)
              have HW6' : Hid (Below w.heap.size w ((w6.alloc (Obj.cells #[Value.int IntKind.i64 (nth E (at0 % E.length)), Value.int IntKind.i64 (nth E (ot0 % E.length))] 3)).alloc (Obj.cells #[Value.int IntKind.i64 1, Value.int IntKind.i64 0] 3))) := Lib.hid (HW6.out.trans (HT6.out.mono HW6.out.size))
              have HX6' := Lib.hid ((HX6.out.alloc (Obj.cells #[Value.int IntKind.i64 (nth E (at0 % E.length)), Value.int IntKind.i64 (nth E (ot0 % E.length))] 3)).alloc (Obj.cells #[Value.int IntKind.i64 1, Value.int IntKind.i64 0] 3))
              have HL6 : Hid (IsLot ((w6.alloc (Obj.cells #[Value.int IntKind.i64 (nth E (at0 % E.length)), Value.int IntKind.i64 (nth E (ot0 % E.length))] 3)).alloc (Obj.cells #[Value.int IntKind.i64 1, Value.int IntKind.i64 0] 3)).heap.size ((w6.alloc (Obj.cells #[Value.int IntKind.i64 (nth E (at0 % E.length)), Value.int IntKind.i64 (nth E (ot0 % E.length))] 3)).alloc (Obj.cells #[Value.int IntKind.i64 1, Value.int IntKind.i64 0] 3)) (.slice (some ⟨w6.heap.size, 0, none⟩) 2 2) (.bool true) (.slice (some ⟨w6.heap.size + 1, 0, none⟩) 2 2) ⟨[nth E (at0 % E.length), nth E (ot0 % E.length)], true, [1, 0]⟩) :=
                Lib.hid ⟨litInts (b := w6.heap.size) (xs := [nth E (at0 % E.length), nth E (ot0 % E.length)]) rfl (by simp) (by omega) (by intro y hy; rcases List.mem_cons.1 hy with rfl | hy; exact HI1.out; obtain rfl := List.mem_singleton.1 hy; exact HI2.out) (by simp; omega) ((Box.new w6 #[.int .i64 (nth E (at0 % E.length)), .int .i64 (nth E (ot0 % E.length))] 3).alloc _), rfl,
                  litInts (b := w6.heap.size + 1) (xs := [1, 0]) rfl (by simp) (by omega) (by simp [I64]) (by simp) (by have h := Box.new (w6.alloc (Obj.cells #[Value.int IntKind.i64 (nth E (at0 % E.length)), Value.int IntKind.i64 (nth E (ot0 % E.length))] 3)) #[.int .i64 1, .int .i64 0] 3; rw [World.size_alloc] at h; exact h)⟩
              go_wp2_with fail
              refine (with27_any _ ((w6.alloc (Obj.cells #[Value.int IntKind.i64 (nth E (at0 % E.length)), Value.int IntKind.i64 (nth E (ot0 % E.length))] 3)).alloc (Obj.cells #[Value.int IntKind.i64 1, Value.int IntKind.i64 0] 3)) _ _ _ _ _ f ⟨[nth E (at0 % E.length), nth E (ot0 % E.length)], true, [1, 0]⟩ ((HF.out.below HW6'.out hB).mono (Nat.le_trans hB HW6'.out.size)) HL6.out (by have := H10.out; omega) (Nat.le_refl _)).mono ?_
              rintro e w7 ⟨v7, rfl, hf7, hb7⟩
              have HFX7 := Lib.hid hf7
              obtain ⟨_, _, b7, o7, c7, ⟨a7, rfl, _⟩, _⟩ := hf7
              have HX7 := Lib.hid (HX6'.out.ext hb7)
              have HW7 : Hid (Below w.heap.size w w7) := Lib.hid (HW6'.out.trans (hb7.mono HW6'.out.size))
              clear hb7 r6 z6 HT6 HW6' HX6' HL6
              obtain ⟨z7, r7⟩ := HX7.out
              go_wp2_with fail
              refine (ccount_any w7.heap.size w7 _ _ _ HFX7.out (Nat.le_refl _)).mono ?_
              rintro e w8 ⟨rfl, hb8⟩
              have HX8 := Lib.hid (HX7.out.ext hb8)
              have HW8 : Hid (Below w.heap.size w w8) := Lib.hid (HW7.out.trans (hb8.mono HW7.out.size))
              rw [HK2.out.1, HK2.out.2]
              clear hb8 r7 z7 HK2
              obtain ⟨z8, r8⟩ := HX8.out
              have HT8 : Hid (Below w8.heap.size w8 (w8.alloc (Obj.cells #[Value.int IntKind.i64 (nth E (at0 % E.length)), Value.int IntKind.i64 (nth E (ot0 % E.length))] 3))) := Lib.hid ((Below.refl w8.heap.size w8).alloc (Nat.le_refl _) _)
              have HW8' : Hid (Below w.heap.size w (w8.alloc (Obj.cells #[Value.int IntKind.i64 (nth E (at0 % E.length)), Value.int IntKind.i64 (nth E (ot0 % E.length))] 3))) := Lib.hid (HW8.out.trans (HT8.out.mono HW8.out.size))
              have HX8' := Lib.hid (HX8.out.alloc (Obj.cells #[Value.int IntKind.i64 (nth E (at0 % E.length)), Value.int IntKind.i64 (nth E (ot0 % E.length))] 3))
              have HL8 : Hid (IsLot (w8.alloc (Obj.cells #[Value.int IntKind.i64 (nth E (at0 % E.length)), Value.int IntKind.i64 (nth E (ot0 % E.length))] 3)).heap.size (w8.alloc (Obj.cells #[Value.int IntKind.i64 (nth E (at0 % E.length)), Value.int IntKind.i64 (nth E (ot0 % E.length))] 3)) (.slice (some ⟨w8.heap.size, 0, none⟩) 2 2) (.bool false) (.slice none 0 0) ⟨[nth E (at0 % E.length), nth E (ot0 % E.length)], false, []⟩) :=
                Lib.hid ⟨litInts (b := w8.heap.size) (xs := [nth E (at0 % E.length), nth E (ot0 % E.length)]) rfl (by simp) (by omega) (by intro y hy; rcases List.mem_cons.1 hy with rfl | hy; exact HI1.out; obtain rfl := List.mem_singleton.1 hy; exact HI2.out) (by simp) (Box.new w8 #[.int .i64 (nth E (at0 % E.length)), .int .i64 (nth E (ot0 % E.length))] 3), rfl, noInts⟩
              go_wp2_with fail
              refine (with27_any _ (w8.alloc (Obj.cells #[Value.int IntKind.i64 (nth E (at0 % E.length)), Value.int IntKind.i64 (nth E (ot0 % E.length))] 3)) _ _ _ _ _ f ⟨[nth E (at0 % E.length), nth E (ot0 % E.length)], false, []⟩ ((HF.out.below HW8'.out hB).mono (Nat.le_trans hB HW8'.out.size)) HL8.out (by have := H10.out; omega) (Nat.le_refl _)).mono ?_
              rintro e w9 ⟨v9, rfl, hf9, hb9⟩
              have HFX9 := Lib.hid hf9
              obtain ⟨_, _, b9, o9, c9, ⟨a9, rfl, _⟩, _⟩ := hf9
              have HX9 := Lib.hid (HX8'.out.ext hb9)
              have HW9 : Hid (Below w.heap.size w w9) := Lib.hid (HW8'.out.trans (hb9.mono HW8'.out.size))
              clear hb9 r8 z8 HT8 HW8' HX8' HL8
              obtain ⟨z9, r9⟩ := HX9.out
              go_wp2_with fail
              refine (ccount_any w9.heap.size w9 _ _ _ HFX9.out (Nat.le_refl _)).mono ?_
              rintro e w10 ⟨rfl, hb10⟩
              have HW10 : Hid (Below w.heap.size w w10) := Lib.hid (HW9.out.trans (hb10.mono HW9.out.size))
              obtain ⟨k1, k2, k3⟩ := HK3.out
              rw [k1]
              obtain ⟨uu, huu⟩ : ∃ x, countR (extF f ⟨[nth E (at0 % E.length), nth E (ot0 % E.length)], false, []⟩) = x := ⟨_, rfl⟩
              rw [huu] at k2 k3 ⊢
              have k2' : decide (cc ≤ uu) = true := decide_eq_true k2
              have k3' : decide (uu ≤ 2 * cc) = true := decide_eq_true k3
              clear hb10 r9 z9 HK3 k1 huu
              go_wp2
              go_ret
              exact ⟨rfl, HW10.out⟩
      · have hall1 : (allE f != 0) = true := by simpa using hall
        obtain ⟨a4, c4, rfl⟩ := HE4.out.form
        clear hall
        obtain ⟨z4, r4⟩ := HX4.out
        go_wp2
        go_ret
        exact ⟨rfl, HW4.out⟩

end Go.Proofs.Ythekefnocphcdaa
