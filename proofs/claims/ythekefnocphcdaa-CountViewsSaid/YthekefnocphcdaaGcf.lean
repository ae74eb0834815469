/- Layers Sn27 C13 C15 C16 RegCpy Kn27 C17 RegSet Cw6 C18 Cu1 Cw7 MapDel C19 C20 Vw0 C21: the walks and the plain laws under the last text, merged and cut to what it uses; nothing is assumed. -/
import Derived.Deep.CutRange
import Derived.Shelf.Spec.TrailingZeros
import Derived.Test.YthekefnocphcdaaGce

set_option linter.unusedVariables false

set_option linter.unusedSimpArgs false

namespace Go.Proofs.Ythekefnocphcdaa

open Go.RowKit

def sxA : Flow := ⟨0, []⟩

def sxB : Flow := ⟨2, []⟩

def sxC : Flow := ⟨2, [⟨[0, 1], true, [1, 0]⟩]⟩

def sxD : Flow := ⟨2, [⟨[0, 1], false, []⟩]⟩

def sxE : Flow := ⟨3, [⟨[2, 0], false, []⟩]⟩

def sxF : Flow := ⟨9, []⟩

def sxG : Flow := ⟨-1, []⟩

theorem sxA_ans : allE sxA = 0 ∧ allR sxA = [[]] := by decide +kernel

theorem sxB_ans : allE sxB = 0 ∧ allR sxB = [[0, 1]] := by decide +kernel

theorem sxC_ans : allE sxC = 0 ∧ allR sxC = [[3, 2]] := by decide +kernel

theorem sxD_ans : allE sxD = 0 ∧ allR sxD = [[2, 3], [3, 2]] := by decide +kernel

theorem sxE_ans : allE sxE = 0 ∧ allR sxE = [[3, 1, 4], [4, 1, 3]] := by decide +kernel

theorem sxE_cnt : countR sxE = 2 := by decide +kernel

theorem sxE_pos : possB sxE [4, 1, 3] = true ∧ possB sxE [4, 1, 4] = false := by decide +kernel

theorem sxF_ans : allE sxF = 2 ∧ allR sxF = [] := by decide +kernel

theorem sxG_ans : allE sxG = 250 ∧ countR sxG = 0 := by decide +kernel

set_option maxHeartbeats 8000000 in
set_option maxRecDepth 100000 in
/-- sane -/
theorem sane27_any (w : World) : Calls Try.prog 13 #[] w fun e w' => e = .returned (.bool true) ∧ Below w.heap.size w w' := by
  have HB0 : Hid (Below w.heap.size w w) := Lib.hid (Below.refl _ _)
  go_enter Try.func13, Try.ntmps13
  have HT0 : Hid (Below w.heap.size w w) := Lib.hid (HB0.out)
  have HQ0 : Hid (Below w.heap.size w w) := Lib.hid ((Below.refl w.heap.size w))
  have HF0 : Hid (IsFlow (w.heap.size) w (.int .i64 0) (.slice none 0 0) sxA) := Lib.hid ⟨rfl, by simp [sxA, I64], noLots⟩
  go_wp2_with fail
  refine (all27_any (w.heap.size) _ _ _ sxA HF0.out (by simp)).mono ?_
  rintro e w1 ⟨v, rfl, ho, hb⟩
  rw [sxA_ans.1]
  rw [sxA_ans.2] at ho
  obtain ⟨a1, c1, rfl, _⟩ := ho.form
  simp only [List.length_cons, List.length_nil, Nat.zero_add, Nat.reduceAdd]
  have HO1 := Lib.hid ho.isMat
  clear ho
  have HB1 : Hid (Below w.heap.size w w1) := Lib.hid (HT0.out.trans (hb.mono HT0.out.size))
  have HS1 : Hid (Below w.heap.size w w1) := Lib.hid (HQ0.out.trans (hb.mono HQ0.out.size))
  clear hb
  have HT1 : Hid (Below w.heap.size w w1) := Lib.hid (HB1.out)
  have HQ1 : Hid (Below w1.heap.size w1 w1) := Lib.hid ((Below.refl w1.heap.size w1))
  have HF1 : Hid (IsFlow (w1.heap.size) w1 (.int .i64 2) (.slice none 0 0) sxB) := Lib.hid ⟨rfl, by simp [sxB, I64], noLots⟩
  go_wp2_with fail
  refine (all27_any (w1.heap.size) _ _ _ sxB HF1.out (by simp)).mono ?_
  rintro e w2 ⟨v, rfl, ho, hb⟩
  rw [sxB_ans.1]
  rw [sxB_ans.2] at ho
  obtain ⟨a2, c2, rfl, _⟩ := ho.form
  simp only [List.length_cons, List.length_nil, Nat.zero_add, Nat.reduceAdd]
  have HO2 := Lib.hid ho.isMat
  clear ho
  have HB2 : Hid (Below w.heap.size w w2) := Lib.hid (HT1.out.trans (hb.mono HT1.out.size))
  have HS2 : Hid (Below w1.heap.size w1 w2) := Lib.hid (HQ1.out.trans (hb.mono HQ1.out.size))
  clear hb
  have HT2 : Hid (Below w.heap.size w (((w2.alloc (Obj.cells #[.int .i64 0, .int .i64 1] 3)).alloc (Obj.cells #[.int .i64 1, .int .i64 0] 3)).alloc (Obj.cells #[.slice (some ⟨w2.heap.size, 0, none⟩) 2 2, .bool true, .slice (some ⟨w2.heap.size + 1, 0, none⟩) 2 2] 39))) := Lib.hid ((((HB2.out.alloc (by have := HB2.out.size; simp; try omega) _).alloc (by have := HB2.out.size; simp; try omega) _).alloc (by have := HB2.out.size; simp; try omega) _))
  have HQ2 : Hid (Below w2.heap.size w2 (((w2.alloc (Obj.cells #[.int .i64 0, .int .i64 1] 3)).alloc (Obj.cells #[.int .i64 1, .int .i64 0] 3)).alloc (Obj.cells #[.slice (some ⟨w2.heap.size, 0, none⟩) 2 2, .bool true, .slice (some ⟨w2.heap.size + 1, 0, none⟩) 2 2] 39))) := Lib.hid (((((Below.refl w2.heap.size w2).alloc (by simp; try omega) _).alloc (by simp; try omega) _).alloc (by simp; try omega) _))
  have HF2 : Hid (IsFlow (w2.heap.size + 1 + 1 + 1) (((w2.alloc (Obj.cells #[.int .i64 0, .int .i64 1] 3)).alloc (Obj.cells #[.int .i64 1, .int .i64 0] 3)).alloc (Obj.cells #[.slice (some ⟨w2.heap.size, 0, none⟩) 2 2, .bool true, .slice (some ⟨w2.heap.size + 1, 0, none⟩) 2 2] 39)) (.int .i64 2) (.slice (some ⟨w2.heap.size + 1 + 1, 0, none⟩) 1 1) sxC) := Lib.hid ⟨rfl, by simp [sxC, I64], oneLot (by have h := Box.new ((w2.alloc (.cells #[.int .i64 0, .int .i64 1] 3)).alloc (.cells #[.int .i64 1, .int .i64 0] 3)) #[.slice (some ⟨w2.heap.size, 0, none⟩) 2 2, .bool true, .slice (some ⟨w2.heap.size + 1, 0, none⟩) 2 2] 39; simpa using h) (by omega) (litInts rfl (by decide) (by omega) (by simp [I64]) (by omega) (((Box.new w2 #[.int .i64 0, .int .i64 1] 3).alloc _).alloc _)) (litInts (b := w2.heap.size + 1) rfl (by decide) (by omega) (by simp [I64]) (by omega) (by have h := (Box.new (w2.alloc (.cells #[.int .i64 0, .int .i64 1] 3)) #[.int .i64 1, .int .i64 0] 3).alloc (.cells #[.slice (some ⟨w2.heap.size, 0, none⟩) 2 2, .bool true, .slice (some ⟨w2.heap.size + 1, 0, none⟩) 2 2] 39); simpa using h))⟩
  go_wp2_with fail
  refine (all27_any (w2.heap.size + 1 + 1 + 1) _ _ _ sxC HF2.out (by simp)).mono ?_
  rintro e w3 ⟨v, rfl, ho, hb⟩
  rw [sxC_ans.1]
  rw [sxC_ans.2] at ho
  obtain ⟨a3, c3, rfl, _⟩ := ho.form
  simp only [List.length_cons, List.length_nil, Nat.zero_add, Nat.reduceAdd]
  have HO3 := Lib.hid ho.isMat
  clear ho
  have HB3 : Hid (Below w.heap.size w w3) := Lib.hid (HT2.out.trans (hb.mono (by have := HT2.out.size; simp only [World.size_alloc] at this ⊢; omega)))
  have HS3 : Hid (Below w2.heap.size w2 w3) := Lib.hid (HQ2.out.trans (hb.mono (by have := HQ2.out.size; simp only [World.size_alloc] at this ⊢; omega)))
  clear hb
  have HT3 : Hid (Below w.heap.size w ((w3.alloc (Obj.cells #[.int .i64 0, .int .i64 1] 3)).alloc (Obj.cells #[.slice (some ⟨w3.heap.size, 0, none⟩) 2 2, .bool false, .slice none 0 0] 39))) := Lib.hid (((HB3.out.alloc (by have := HB3.out.size; simp; try omega) _).alloc (by have := HB3.out.size; simp; try omega) _))
  have HQ3 : Hid (Below w3.heap.size w3 ((w3.alloc (Obj.cells #[.int .i64 0, .int .i64 1] 3)).alloc (Obj.cells #[.slice (some ⟨w3.heap.size, 0, none⟩) 2 2, .bool false, .slice none 0 0] 39))) := Lib.hid ((((Below.refl w3.heap.size w3).alloc (by simp; try omega) _).alloc (by simp; try omega) _))
  have HF3 : Hid (IsFlow (w3.heap.size + 1 + 1) ((w3.alloc (Obj.cells #[.int .i64 0, .int .i64 1] 3)).alloc (Obj.cells #[.slice (some ⟨w3.heap.size, 0, none⟩) 2 2, .bool false, .slice none 0 0] 39)) (.int .i64 2) (.slice (some ⟨w3.heap.size + 1, 0, none⟩) 1 1) sxD) := Lib.hid ⟨rfl, by simp [sxD, I64], oneLot (by have h := Box.new (w3.alloc (.cells #[.int .i64 0, .int .i64 1] 3)) #[.slice (some ⟨w3.heap.size, 0, none⟩) 2 2, .bool false, .slice none 0 0] 39; simpa using h) (by omega) (litInts rfl (by decide) (by omega) (by simp [I64]) (by omega) ((Box.new w3 #[.int .i64 0, .int .i64 1] 3).alloc _)) noInts⟩
  go_wp2_with fail
  refine (all27_any (w3.heap.size + 1 + 1) _ _ _ sxD HF3.out (by simp)).mono ?_
  rintro e w4 ⟨v, rfl, ho, hb⟩
  rw [sxD_ans.1]
  rw [sxD_ans.2] at ho
  obtain ⟨a4, c4, rfl, _⟩ := ho.form
  simp only [List.length_cons, List.length_nil, Nat.zero_add, Nat.reduceAdd]
  have HO4 := Lib.hid ho.isMat
  clear ho
  have HB4 : Hid (Below w.heap.size w w4) := Lib.hid (HT3.out.trans (hb.mono (by have := HT3.out.size; simp only [World.size_alloc] at this ⊢; omega)))
  have HS4 : Hid (Below w3.heap.size w3 w4) := Lib.hid (HQ3.out.trans (hb.mono (by have := HQ3.out.size; simp only [World.size_alloc] at this ⊢; omega)))
  clear hb
  have HT4 : Hid (Below w.heap.size w (((w4.alloc (Obj.cells #[.int .i64 2, .int .i64 0] 3)).alloc (Obj.cells #[.slice (some ⟨w4.heap.size, 0, none⟩) 2 2, .bool false, .slice none 0 0] 39)).alloc (Obj.cells #[.int .i64 3, .slice (some ⟨w4.heap.size + 1, 0, none⟩) 1 1] 24))) := Lib.hid ((((HB4.out.alloc (by have := HB4.out.size; simp; try omega) _).alloc (by have := HB4.out.size; simp; try omega) _).alloc (by have := HB4.out.size; simp; try omega) _))
  have HQ4 : Hid (Below w4.heap.size w4 (((w4.alloc (Obj.cells #[.int .i64 2, .int .i64 0] 3)).alloc (Obj.cells #[.slice (some ⟨w4.heap.size, 0, none⟩) 2 2, .bool false, .slice none 0 0] 39)).alloc (Obj.cells #[.int .i64 3, .slice (some ⟨w4.heap.size + 1, 0, none⟩) 1 1] 24))) := Lib.hid (((((Below.refl w4.heap.size w4).alloc (by simp; try omega) _).alloc (by simp; try omega) _).alloc (by simp; try omega) _))
  have HF4 : Hid (IsFlow (w4.heap.size + 1 + 1 + 1) (((w4.alloc (Obj.cells #[.int .i64 2, .int .i64 0] 3)).alloc (Obj.cells #[.slice (some ⟨w4.heap.size, 0, none⟩) 2 2, .bool false, .slice none 0 0] 39)).alloc (Obj.cells #[.int .i64 3, .slice (some ⟨w4.heap.size + 1, 0, none⟩) 1 1] 24)) (.int .i64 3) (.slice (some ⟨w4.heap.size + 1, 0, none⟩) 1 1) sxE) := Lib.hid ⟨rfl, by simp [sxE, I64], oneLot (by have h := Box.new (w4.alloc (.cells #[.int .i64 2, .int .i64 0] 3)) #[.slice (some ⟨w4.heap.size, 0, none⟩) 2 2, .bool false, .slice none 0 0] 39; have h := h.alloc (.cells #[.int .i64 3, .slice (some ⟨w4.heap.size + 1, 0, none⟩) 1 1] 24); simpa using h) (by omega) (litInts rfl (by decide) (by omega) (by simp [I64]) (by omega) (((Box.new w4 #[.int .i64 2, .int .i64 0] 3).alloc _).alloc _)) noInts⟩
  go_wp2_with fail
  refine (all27_any (w4.heap.size + 1 + 1 + 1) _ _ _ sxE HF4.out (by simp)).mono ?_
  rintro e w5 ⟨v, rfl, ho, hb⟩
  rw [sxE_ans.1]
  rw [sxE_ans.2] at ho
  obtain ⟨a5, c5, rfl, _⟩ := ho.form
  simp only [List.length_cons, List.length_nil, Nat.zero_add, Nat.reduceAdd]
  have HO5 := Lib.hid ho.isMat
  clear ho
  have HE5 := Lib.hid hb
  have HB5 : Hid (Below w.heap.size w w5) := Lib.hid (HT4.out.trans (hb.mono (by have := HT4.out.size; simp only [World.size_alloc] at this ⊢; omega)))
  have HS5 : Hid (Below w4.heap.size w4 w5) := Lib.hid (HQ4.out.trans (hb.mono (by have := HQ4.out.size; simp only [World.size_alloc] at this ⊢; omega)))
  clear hb
  have HFE : Hid (IsFlow w5.heap.size w5 (.int .i64 3) (.slice (some ⟨w4.heap.size + 1, 0, none⟩) 1 1) sxE) := Lib.hid ((HF4.out.below (by simpa using HE5.out) (Nat.le_refl _)).mono (by have := HE5.out.size; simpa using this))
  have HXE : Hid (Box w5 (w4.heap.size + 1 + 1) #[.int .i64 3, .slice (some ⟨w4.heap.size + 1, 0, none⟩) 1 1]) := Lib.hid (by
    have h := (Box.new ((w4.alloc (.cells #[.int .i64 2, .int .i64 0] 3)).alloc (.cells #[.slice (some ⟨w4.heap.size, 0, none⟩) 2 2, .bool false, .slice none 0 0] 39)) #[.int .i64 3, .slice (some ⟨w4.heap.size + 1, 0, none⟩) 1 1] 24)
    have h := h.below HE5.out (by simp)
    simpa using h)
  have HT5 : Hid (Below w.heap.size w w5) := Lib.hid (HB5.out)
  have HQ5 : Hid (Below w5.heap.size w5 w5) := Lib.hid ((Below.refl w5.heap.size w5))
  have HX5e := Lib.hid (HXE.out.ext (Below.refl w5.heap.size w5))
  obtain ⟨zx5, rx5⟩ := HX5e.out
  have HF5 := Lib.hid ((HFE.out.below (Below.refl w5.heap.size w5) (Nat.le_refl _)).mono (Below.refl w5.heap.size w5).size)
  go_wp2_with fail
  refine (ccount_any _ _ _ _ sxE HF5.out (Nat.le_refl _)).mono ?_
  rintro e w6 ⟨rfl, hb⟩
  rw [sxE_cnt, sxE_ans.1]
  have HB6 : Hid (Below w.heap.size w w6) := Lib.hid (HT5.out.trans (hb.mono HT5.out.size))
  have HS6 : Hid (Below w5.heap.size w5 w6) := Lib.hid (HQ5.out.trans (hb.mono HQ5.out.size))
  clear hb
  clear zx5 rx5
  have HT6 : Hid (Below w.heap.size w w6) := Lib.hid (HB6.out)
  have HQ6 : Hid (Below w6.heap.size w6 w6) := Lib.hid ((Below.refl w6.heap.size w6))
  have HF6 : Hid (IsFlow (w6.heap.size) w6 (.int .i64 9) (.slice none 0 0) sxF) := Lib.hid ⟨rfl, by simp [sxF, I64], noLots⟩
  go_wp2_with fail
  refine (all27_any (w6.heap.size) _ _ _ sxF HF6.out (by simp)).mono ?_
  rintro e w7 ⟨v, rfl, ho, hb⟩
  rw [sxF_ans.1]
  rw [sxF_ans.2] at ho
  obtain ⟨a7, c7, rfl, _⟩ := ho.form
  simp only [List.length_cons, List.length_nil, Nat.zero_add, Nat.reduceAdd]
  have HO7 := Lib.hid ho.isMat
  clear ho
  have HB7 : Hid (Below w.heap.size w w7) := Lib.hid (HT6.out.trans (hb.mono HT6.out.size))
  have HS7 : Hid (Below w6.heap.size w6 w7) := Lib.hid (HQ6.out.trans (hb.mono HQ6.out.size))
  clear hb
  have HT7 : Hid (Below w.heap.size w (w7.alloc (Obj.cells #[.int .i64 4, .int .i64 1, .int .i64 3] 3))) := Lib.hid ((HB7.out.alloc (by have := HB7.out.size; simp; try omega) _))
  have HQ7 : Hid (Below w7.heap.size w7 (w7.alloc (Obj.cells #[.int .i64 4, .int .i64 1, .int .i64 3] 3))) := Lib.hid (((Below.refl w7.heap.size w7).alloc (by simp; try omega) _))
  have HX7e := Lib.hid (HXE.out.ext (HS6.out.trans (HS7.out.mono HS6.out.size)))
  obtain ⟨zx7, rx7⟩ := HX7e.out
  have HF7 := Lib.hid ((HFE.out.below (((HS6.out.trans (HS7.out.mono HS6.out.size))).trans (HQ7.out.mono ((HS6.out.trans (HS7.out.mono HS6.out.size))).size)) (Nat.le_refl _)).mono (by have := ((HS6.out.trans (HS7.out.mono HS6.out.size))).size; show w5.heap.size ≤ w7.heap.size + 1; omega))
  have HL7 : Hid (IsInts (w7.heap.size + 1) (w7.alloc (Obj.cells #[.int .i64 4, .int .i64 1, .int .i64 3] 3)) (.slice (some ⟨w7.heap.size, 0, none⟩) 3 3) [4, 1, 3]) := Lib.hid (litInts rfl (by decide) (by omega) (by simp [I64]) (by omega) (Box.new w7 #[.int .i64 4, .int .i64 1, .int .i64 3] 3))
  go_wp2_with fail
  refine (cposs_any (w7.heap.size + 1) _ _ _ _ sxE [4, 1, 3] HF7.out HL7.out (by simp)).mono ?_
  rintro e w8 ⟨rfl, hb⟩
  rw [sxE_pos.1, sxE_ans.1]
  have HB8 : Hid (Below w.heap.size w w8) := Lib.hid (HT7.out.trans (hb.mono (by have := HT7.out.size; simp only [World.size_alloc] at this ⊢; omega)))
  have HS8 : Hid (Below w7.heap.size w7 w8) := Lib.hid (HQ7.out.trans (hb.mono (by have := HQ7.out.size; simp only [World.size_alloc] at this ⊢; omega)))
  clear hb
  clear zx7 rx7
  have HT8 : Hid (Below w.heap.size w (w8.alloc (Obj.cells #[.int .i64 4, .int .i64 1, .int .i64 4] 3))) := Lib.hid ((HB8.out.alloc (by have := HB8.out.size; simp; try omega) _))
  have HQ8 : Hid (Below w8.heap.size w8 (w8.alloc (Obj.cells #[.int .i64 4, .int .i64 1, .int .i64 4] 3))) := Lib.hid (((Below.refl w8.heap.size w8).alloc (by simp; try omega) _))
  have HX8e := Lib.hid (HXE.out.ext ((HS6.out.trans (HS7.out.mono HS6.out.size)).trans (HS8.out.mono (HS6.out.trans (HS7.out.mono HS6.out.size)).size)))
  obtain ⟨zx8, rx8⟩ := HX8e.out
  have HF8 := Lib.hid ((HFE.out.below ((((HS6.out.trans (HS7.out.mono HS6.out.size)).trans (HS8.out.mono (HS6.out.trans (HS7.out.mono HS6.out.size)).size))).trans (HQ8.out.mono (((HS6.out.trans (HS7.out.mono HS6.out.size)).trans (HS8.out.mono (HS6.out.trans (HS7.out.mono HS6.out.size)).size))).size)) (Nat.le_refl _)).mono (by have := (((HS6.out.trans (HS7.out.mono HS6.out.size)).trans (HS8.out.mono (HS6.out.trans (HS7.out.mono HS6.out.size)).size))).size; show w5.heap.size ≤ w8.heap.size + 1; omega))
  have HL8 : Hid (IsInts (w8.heap.size + 1) (w8.alloc (Obj.cells #[.int .i64 4, .int .i64 1, .int .i64 4] 3)) (.slice (some ⟨w8.heap.size, 0, none⟩) 3 3) [4, 1, 4]) := Lib.hid (litInts rfl (by decide) (by omega) (by simp [I64]) (by omega) (Box.new w8 #[.int .i64 4, .int .i64 1, .int .i64 4] 3))
  go_wp2_with fail
  refine (cposs_any (w8.heap.size + 1) _ _ _ _ sxE [4, 1, 4] HF8.out HL8.out (by simp)).mono ?_
  rintro e w9 ⟨rfl, hb⟩
  rw [sxE_pos.2, sxE_ans.1]
  have HB9 : Hid (Below w.heap.size w w9) := Lib.hid (HT8.out.trans (hb.mono (by have := HT8.out.size; simp only [World.size_alloc] at this ⊢; omega)))
  have HS9 : Hid (Below w8.heap.size w8 w9) := Lib.hid (HQ8.out.trans (hb.mono (by have := HQ8.out.size; simp only [World.size_alloc] at this ⊢; omega)))
  clear hb
  clear zx8 rx8
  have HT9 : Hid (Below w.heap.size w w9) := Lib.hid (HB9.out)
  have HQ9 : Hid (Below w9.heap.size w9 w9) := Lib.hid ((Below.refl w9.heap.size w9))
  have HF9 : Hid (IsFlow w9.heap.size w9 (.int .i64 (-1)) (.slice none 0 0) sxG) := Lib.hid ⟨rfl, by simp [sxG, I64], noLots⟩
  go_wp2_with fail
  refine (ccount_any _ _ _ _ sxG HF9.out (Nat.le_refl _)).mono ?_
  rintro e w10 ⟨rfl, hb⟩
  rw [sxG_ans.2, sxG_ans.1]
  have HB10 : Hid (Below w.heap.size w w10) := Lib.hid (HT9.out.trans (hb.mono HT9.out.size))
  have HS10 : Hid (Below w9.heap.size w9 w10) := Lib.hid (HQ9.out.trans (hb.mono HQ9.out.size))
  clear hb
  have HONE := Lib.hid ((HO1.out.below ((((((((HS2.out.trans (HS3.out.mono HS2.out.size)).trans (HS4.out.mono (HS2.out.trans (HS3.out.mono HS2.out.size)).size)).trans (HS5.out.mono ((HS2.out.trans (HS3.out.mono HS2.out.size)).trans (HS4.out.mono (HS2.out.trans (HS3.out.mono HS2.out.size)).size)).size)).trans (HS6.out.mono (((HS2.out.trans (HS3.out.mono HS2.out.size)).trans (HS4.out.mono (HS2.out.trans (HS3.out.mono HS2.out.size)).size)).trans (HS5.out.mono ((HS2.out.trans (HS3.out.mono HS2.out.size)).trans (HS4.out.mono (HS2.out.trans (HS3.out.mono HS2.out.size)).size)).size)).size)).trans (HS7.out.mono ((((HS2.out.trans (HS3.out.mono HS2.out.size)).trans (HS4.out.mono (HS2.out.trans (HS3.out.mono HS2.out.size)).size)).trans (HS5.out.mono ((HS2.out.trans (HS3.out.mono HS2.out.size)).trans (HS4.out.mono (HS2.out.trans (HS3.out.mono HS2.out.size)).size)).size)).trans (HS6.out.mono (((HS2.out.trans (HS3.out.mono HS2.out.size)).trans (HS4.out.mono (HS2.out.trans (HS3.out.mono HS2.out.size)).size)).trans (HS5.out.mono ((HS2.out.trans (HS3.out.mono HS2.out.size)).trans (HS4.out.mono (HS2.out.trans (HS3.out.mono HS2.out.size)).size)).size)).size)).size)).trans (HS8.out.mono (((((HS2.out.trans (HS3.out.mono HS2.out.size)).trans (HS4.out.mono (HS2.out.trans (HS3.out.mono HS2.out.size)).size)).trans (HS5.out.mono ((HS2.out.trans (HS3.out.mono HS2.out.size)).trans (HS4.out.mono (HS2.out.trans (HS3.out.mono HS2.out.size)).size)).size)).trans (HS6.out.mono (((HS2.out.trans (HS3.out.mono HS2.out.size)).trans (HS4.out.mono (HS2.out.trans (HS3.out.mono HS2.out.size)).size)).trans (HS5.out.mono ((HS2.out.trans (HS3.out.mono HS2.out.size)).trans (HS4.out.mono (HS2.out.trans (HS3.out.mono HS2.out.size)).size)).size)).size)).trans (HS7.out.mono ((((HS2.out.trans (HS3.out.mono HS2.out.size)).trans (HS4.out.mono (HS2.out.trans (HS3.out.mono HS2.out.size)).size)).trans (HS5.out.mono ((HS2.out.trans (HS3.out.mono HS2.out.size)).trans (HS4.out.mono (HS2.out.trans (HS3.out.mono HS2.out.size)).size)).size)).trans (HS6.out.mono (((HS2.out.trans (HS3.out.mono HS2.out.size)).trans (HS4.out.mono (HS2.out.trans (HS3.out.mono HS2.out.size)).size)).trans (HS5.out.mono ((HS2.out.trans (HS3.out.mono HS2.out.size)).trans (HS4.out.mono (HS2.out.trans (HS3.out.mono HS2.out.size)).size)).size)).size)).size)).size)).trans (HS9.out.mono ((((((HS2.out.trans (HS3.out.mono HS2.out.size)).trans (HS4.out.mono (HS2.out.trans (HS3.out.mono HS2.out.size)).size)).trans (HS5.out.mono ((HS2.out.trans (HS3.out.mono HS2.out.size)).trans (HS4.out.mono (HS2.out.trans (HS3.out.mono HS2.out.size)).size)).size)).trans (HS6.out.mono (((HS2.out.trans (HS3.out.mono HS2.out.size)).trans (HS4.out.mono (HS2.out.trans (HS3.out.mono HS2.out.size)).size)).trans (HS5.out.mono ((HS2.out.trans (HS3.out.mono HS2.out.size)).trans (HS4.out.mono (HS2.out.trans (HS3.out.mono HS2.out.size)).size)).size)).size)).trans (HS7.out.mono ((((HS2.out.trans (HS3.out.mono HS2.out.size)).trans (HS4.out.mono (HS2.out.trans (HS3.out.mono HS2.out.size)).size)).trans (HS5.out.mono ((HS2.out.trans (HS3.out.mono HS2.out.size)).trans (HS4.out.mono (HS2.out.trans (HS3.out.mono HS2.out.size)).size)).size)).trans (HS6.out.mono (((HS2.out.trans (HS3.out.mono HS2.out.size)).trans (HS4.out.mono (HS2.out.trans (HS3.out.mono HS2.out.size)).size)).trans (HS5.out.mono ((HS2.out.trans (HS3.out.mono HS2.out.size)).trans (HS4.out.mono (HS2.out.trans (HS3.out.mono HS2.out.size)).size)).size)).size)).size)).trans (HS8.out.mono (((((HS2.out.trans (HS3.out.mono HS2.out.size)).trans (HS4.out.mono (HS2.out.trans (HS3.out.mono HS2.out.size)).size)).trans (HS5.out.mono ((HS2.out.trans (HS3.out.mono HS2.out.size)).trans (HS4.out.mono (HS2.out.trans (HS3.out.mono HS2.out.size)).size)).size)).trans (HS6.out.mono (((HS2.out.trans (HS3.out.mono HS2.out.size)).trans (HS4.out.mono (HS2.out.trans (HS3.out.mono HS2.out.size)).size)).trans (HS5.out.mono ((HS2.out.trans (HS3.out.mono HS2.out.size)).trans (HS4.out.mono (HS2.out.trans (HS3.out.mono HS2.out.size)).size)).size)).size)).trans (HS7.out.mono ((((HS2.out.trans (HS3.out.mono HS2.out.size)).trans (HS4.out.mono (HS2.out.trans (HS3.out.mono HS2.out.size)).size)).trans (HS5.out.mono ((HS2.out.trans (HS3.out.mono HS2.out.size)).trans (HS4.out.mono (HS2.out.trans (HS3.out.mono HS2.out.size)).size)).size)).trans (HS6.out.mono (((HS2.out.trans (HS3.out.mono HS2.out.size)).trans (HS4.out.mono (HS2.out.trans (HS3.out.mono HS2.out.size)).size)).trans (HS5.out.mono ((HS2.out.trans (HS3.out.mono HS2.out.size)).trans (HS4.out.mono (HS2.out.trans (HS3.out.mono HS2.out.size)).size)).size)).size)).size)).size)).size)).trans (HS10.out.mono (((((((HS2.out.trans (HS3.out.mono HS2.out.size)).trans (HS4.out.mono (HS2.out.trans (HS3.out.mono HS2.out.size)).size)).trans (HS5.out.mono ((HS2.out.trans (HS3.out.mono HS2.out.size)).trans (HS4.out.mono (HS2.out.trans (HS3.out.mono HS2.out.size)).size)).size)).trans (HS6.out.mono (((HS2.out.trans (HS3.out.mono HS2.out.size)).trans (HS4.out.mono (HS2.out.trans (HS3.out.mono HS2.out.size)).size)).trans (HS5.out.mono ((HS2.out.trans (HS3.out.mono HS2.out.size)).trans (HS4.out.mono (HS2.out.trans (HS3.out.mono HS2.out.size)).size)).size)).size)).trans (HS7.out.mono ((((HS2.out.trans (HS3.out.mono HS2.out.size)).trans (HS4.out.mono (HS2.out.trans (HS3.out.mono HS2.out.size)).size)).trans (HS5.out.mono ((HS2.out.trans (HS3.out.mono HS2.out.size)).trans (HS4.out.mono (HS2.out.trans (HS3.out.mono HS2.out.size)).size)).size)).trans (HS6.out.mono (((HS2.out.trans (HS3.out.mono HS2.out.size)).trans (HS4.out.mono (HS2.out.trans (HS3.out.mono HS2.out.size)).size)).trans (HS5.out.mono ((HS2.out.trans (HS3.out.mono HS2.out.size)).trans (HS4.out.mono (HS2.out.trans (HS3.out.mono HS2.out.size)).size)).size)).size)).size)).trans (HS8.out.mono (((((HS2.out.trans (HS3.out.mono HS2.out.size)).trans (HS4.out.mono (HS2.out.trans (HS3.out.mono HS2.out.size)).size)).trans (HS5.out.mono ((HS2.out.trans (HS3.out.mono HS2.out.size)).trans (HS4.out.mono (HS2.out.trans (HS3.out.mono HS2.out.size)).size)).size)).trans (HS6.out.mono (((HS2.out.trans (HS3.out.mono HS2.out.size)).trans (HS4.out.mono (HS2.out.trans (HS3.out.mono HS2.out.size)).size)).trans (HS5.out.mono ((HS2.out.trans (HS3.out.mono HS2.out.size)).trans (HS4.out.mono (HS2.out.trans (HS3.out.mono HS2.out.size)).size)).size)).size)).trans (HS7.out.mono ((((HS2.out.trans (HS3.out.mono HS2.out.size)).trans (HS4.out.mono (HS2.out.trans (HS3.out.mono HS2.out.size)).size)).trans (HS5.out.mono ((HS2.out.trans (HS3.out.mono HS2.out.size)).trans (HS4.out.mono (HS2.out.trans (HS3.out.mono HS2.out.size)).size)).size)).trans (HS6.out.mono (((HS2.out.trans (HS3.out.mono HS2.out.size)).trans (HS4.out.mono (HS2.out.trans (HS3.out.mono HS2.out.size)).size)).trans (HS5.out.mono ((HS2.out.trans (HS3.out.mono HS2.out.size)).trans (HS4.out.mono (HS2.out.trans (HS3.out.mono HS2.out.size)).size)).size)).size)).size)).size)).trans (HS9.out.mono ((((((HS2.out.trans (HS3.out.mono HS2.out.size)).trans (HS4.out.mono (HS2.out.trans (HS3.out.mono HS2.out.size)).size)).trans (HS5.out.mono ((HS2.out.trans (HS3.out.mono HS2.out.size)).trans (HS4.out.mono (HS2.out.trans (HS3.out.mono HS2.out.size)).size)).size)).trans (HS6.out.mono (((HS2.out.trans (HS3.out.mono HS2.out.size)).trans (HS4.out.mono (HS2.out.trans (HS3.out.mono HS2.out.size)).size)).trans (HS5.out.mono ((HS2.out.trans (HS3.out.mono HS2.out.size)).trans (HS4.out.mono (HS2.out.trans (HS3.out.mono HS2.out.size)).size)).size)).size)).trans (HS7.out.mono ((((HS2.out.trans (HS3.out.mono HS2.out.size)).trans (HS4.out.mono (HS2.out.trans (HS3.out.mono HS2.out.size)).size)).trans (HS5.out.mono ((HS2.out.trans (HS3.out.mono HS2.out.size)).trans (HS4.out.mono (HS2.out.trans (HS3.out.mono HS2.out.size)).size)).size)).trans (HS6.out.mono (((HS2.out.trans (HS3.out.mono HS2.out.size)).trans (HS4.out.mono (HS2.out.trans (HS3.out.mono HS2.out.size)).size)).trans (HS5.out.mono ((HS2.out.trans (HS3.out.mono HS2.out.size)).trans (HS4.out.mono (HS2.out.trans (HS3.out.mono HS2.out.size)).size)).size)).size)).size)).trans (HS8.out.mono (((((HS2.out.trans (HS3.out.mono HS2.out.size)).trans (HS4.out.mono (HS2.out.trans (HS3.out.mono HS2.out.size)).size)).trans (HS5.out.mono ((HS2.out.trans (HS3.out.mono HS2.out.size)).trans (HS4.out.mono (HS2.out.trans (HS3.out.mono HS2.out.size)).size)).size)).trans (HS6.out.mono (((HS2.out.trans (HS3.out.mono HS2.out.size)).trans (HS4.out.mono (HS2.out.trans (HS3.out.mono HS2.out.size)).size)).trans (HS5.out.mono ((HS2.out.trans (HS3.out.mono HS2.out.size)).trans (HS4.out.mono (HS2.out.trans (HS3.out.mono HS2.out.size)).size)).size)).size)).trans (HS7.out.mono ((((HS2.out.trans (HS3.out.mono HS2.out.size)).trans (HS4.out.mono (HS2.out.trans (HS3.out.mono HS2.out.size)).size)).trans (HS5.out.mono ((HS2.out.trans (HS3.out.mono HS2.out.size)).trans (HS4.out.mono (HS2.out.trans (HS3.out.mono HS2.out.size)).size)).size)).trans (HS6.out.mono (((HS2.out.trans (HS3.out.mono HS2.out.size)).trans (HS4.out.mono (HS2.out.trans (HS3.out.mono HS2.out.size)).size)).trans (HS5.out.mono ((HS2.out.trans (HS3.out.mono HS2.out.size)).trans (HS4.out.mono (HS2.out.trans (HS3.out.mono HS2.out.size)).size)).size)).size)).size)).size)).size)).size)) (Nat.le_refl _)).mono ((((((((HS2.out.trans (HS3.out.mono HS2.out.size)).trans (HS4.out.mono (HS2.out.trans (HS3.out.mono HS2.out.size)).size)).trans (HS5.out.mono ((HS2.out.trans (HS3.out.mono HS2.out.size)).trans (HS4.out.mono (HS2.out.trans (HS3.out.mono HS2.out.size)).size)).size)).trans (HS6.out.mono (((HS2.out.trans (HS3.out.mono HS2.out.size)).trans (HS4.out.mono (HS2.out.trans (HS3.out.mono HS2.out.size)).size)).trans (HS5.out.mono ((HS2.out.trans (HS3.out.mono HS2.out.size)).trans (HS4.out.mono (HS2.out.trans (HS3.out.mono HS2.out.size)).size)).size)).size)).trans (HS7.out.mono ((((HS2.out.trans (HS3.out.mono HS2.out.size)).trans (HS4.out.mono (HS2.out.trans (HS3.out.mono HS2.out.size)).size)).trans (HS5.out.mono ((HS2.out.trans (HS3.out.mono HS2.out.size)).trans (HS4.out.mono (HS2.out.trans (HS3.out.mono HS2.out.size)).size)).size)).trans (HS6.out.mono (((HS2.out.trans (HS3.out.mono HS2.out.size)).trans (HS4.out.mono (HS2.out.trans (HS3.out.mono HS2.out.size)).size)).trans (HS5.out.mono ((HS2.out.trans (HS3.out.mono HS2.out.size)).trans (HS4.out.mono (HS2.out.trans (HS3.out.mono HS2.out.size)).size)).size)).size)).size)).trans (HS8.out.mono (((((HS2.out.trans (HS3.out.mono HS2.out.size)).trans (HS4.out.mono (HS2.out.trans (HS3.out.mono HS2.out.size)).size)).trans (HS5.out.mono ((HS2.out.trans (HS3.out.mono HS2.out.size)).trans (HS4.out.mono (HS2.out.trans (HS3.out.mono HS2.out.size)).size)).size)).trans (HS6.out.mono (((HS2.out.trans (HS3.out.mono HS2.out.size)).trans (HS4.out.mono (HS2.out.trans (HS3.out.mono HS2.out.size)).size)).trans (HS5.out.mono ((HS2.out.trans (HS3.out.mono HS2.out.size)).trans (HS4.out.mono (HS2.out.trans (HS3.out.mono HS2.out.size)).size)).size)).size)).trans (HS7.out.mono ((((HS2.out.trans (HS3.out.mono HS2.out.size)).trans (HS4.out.mono (HS2.out.trans (HS3.out.mono HS2.out.size)).size)).trans (HS5.out.mono ((HS2.out.trans (HS3.out.mono HS2.out.size)).trans (HS4.out.mono (HS2.out.trans (HS3.out.mono HS2.out.size)).size)).size)).trans (HS6.out.mono (((HS2.out.trans (HS3.out.mono HS2.out.size)).trans (HS4.out.mono (HS2.out.trans (HS3.out.mono HS2.out.size)).size)).trans (HS5.out.mono ((HS2.out.trans (HS3.out.mono HS2.out.size)).trans (HS4.out.mono (HS2.out.trans (HS3.out.mono HS2.out.size)).size)).size)).size)).size)).size)).trans (HS9.out.mono ((((((HS2.out.trans (HS3.out.mono HS2.out.size)).trans (HS4.out.mono (HS2.out.trans (HS3.out.mono HS2.out.size)).size)).trans (HS5.out.mono ((HS2.out.trans (HS3.out.mono HS2.out.size)).trans (HS4.out.mono (HS2.out.trans (HS3.out.mono HS2.out.size)).size)).size)).trans (HS6.out.mono (((HS2.out.trans (HS3.out.mono HS2.out.size)).trans (HS4.out.mono (HS2.out.trans (HS3.out.mono HS2.out.size)).size)).trans (HS5.out.mono ((HS2.out.trans (HS3.out.mono HS2.out.size)).trans (HS4.out.mono (HS2.out.trans (HS3.out.mono HS2.out.size)).size)).size)).size)).trans (HS7.out.mono ((((HS2.out.trans (HS3.out.mono HS2.out.size)).trans (HS4.out.mono (HS2.out.trans (HS3.out.mono HS2.out.size)).size)).trans (HS5.out.mono ((HS2.out.trans (HS3.out.mono HS2.out.size)).trans (HS4.out.mono (HS2.out.trans (HS3.out.mono HS2.out.size)).size)).size)).trans (HS6.out.mono (((HS2.out.trans (HS3.out.mono HS2.out.size)).trans (HS4.out.mono (HS2.out.trans (HS3.out.mono HS2.out.size)).size)).trans (HS5.out.mono ((HS2.out.trans (HS3.out.mono HS2.out.size)).trans (HS4.out.mono (HS2.out.trans (HS3.out.mono HS2.out.size)).size)).size)).size)).size)).trans (HS8.out.mono (((((HS2.out.trans (HS3.out.mono HS2.out.size)).trans (HS4.out.mono (HS2.out.trans (HS3.out.mono HS2.out.size)).size)).trans (HS5.out.mono ((HS2.out.trans (HS3.out.mono HS2.out.size)).trans (HS4.out.mono (HS2.out.trans (HS3.out.mono HS2.out.size)).size)).size)).trans (HS6.out.mono (((HS2.out.trans (HS3.out.mono HS2.out.size)).trans (HS4.out.mono (HS2.out.trans (HS3.out.mono HS2.out.size)).size)).trans (HS5.out.mono ((HS2.out.trans (HS3.out.mono HS2.out.size)).trans (HS4.out.mono (HS2.out.trans (HS3.out.mono HS2.out.size)).size)).size)).size)).trans (HS7.out.mono ((((HS2.out.trans (HS3.out.mono HS2.out.size)).trans (HS4.out.mono (HS2.out.trans (HS3.out.mono HS2.out.size)).size)).trans (HS5.out.mono ((HS2.out.trans (HS3.out.mono HS2.out.size)).trans (HS4.out.mono (HS2.out.trans (HS3.out.mono HS2.out.size)).size)).size)).trans (HS6.out.mono (((HS2.out.trans (HS3.out.mono HS2.out.size)).trans (HS4.out.mono (HS2.out.trans (HS3.out.mono HS2.out.size)).size)).trans (HS5.out.mono ((HS2.out.trans (HS3.out.mono HS2.out.size)).trans (HS4.out.mono (HS2.out.trans (HS3.out.mono HS2.out.size)).size)).size)).size)).size)).size)).size)).trans (HS10.out.mono (((((((HS2.out.trans (HS3.out.mono HS2.out.size)).trans (HS4.out.mono (HS2.out.trans (HS3.out.mono HS2.out.size)).size)).trans (HS5.out.mono ((HS2.out.trans (HS3.out.mono HS2.out.size)).trans (HS4.out.mono (HS2.out.trans (HS3.out.mono HS2.out.size)).size)).size)).trans (HS6.out.mono (((HS2.out.trans (HS3.out.mono HS2.out.size)).trans (HS4.out.mono (HS2.out.trans (HS3.out.mono HS2.out.size)).size)).trans (HS5.out.mono ((HS2.out.trans (HS3.out.mono HS2.out.size)).trans (HS4.out.mono (HS2.out.trans (HS3.out.mono HS2.out.size)).size)).size)).size)).trans (HS7.out.mono ((((HS2.out.trans (HS3.out.mono HS2.out.size)).trans (HS4.out.mono (HS2.out.trans (HS3.out.mono HS2.out.size)).size)).trans (HS5.out.mono ((HS2.out.trans (HS3.out.mono HS2.out.size)).trans (HS4.out.mono (HS2.out.trans (HS3.out.mono HS2.out.size)).size)).size)).trans (HS6.out.mono (((HS2.out.trans (HS3.out.mono HS2.out.size)).trans (HS4.out.mono (HS2.out.trans (HS3.out.mono HS2.out.size)).size)).trans (HS5.out.mono ((HS2.out.trans (HS3.out.mono HS2.out.size)).trans (HS4.out.mono (HS2.out.trans (HS3.out.mono HS2.out.size)).size)).size)).size)).size)).trans (HS8.out.mono (((((HS2.out.trans (HS3.out.mono HS2.out.size)).trans (HS4.out.mono (HS2.out.trans (HS3.out.mono HS2.out.size)).size)).trans (HS5.out.mono ((HS2.out.trans (HS3.out.mono HS2.out.size)).trans (HS4.out.mono (HS2.out.trans (HS3.out.mono HS2.out.size)).size)).size)).trans (HS6.out.mono (((HS2.out.trans (HS3.out.mono HS2.out.size)).trans (HS4.out.mono (HS2.out.trans (HS3.out.mono HS2.out.size)).size)).trans (HS5.out.mono ((HS2.out.trans (HS3.out.mono HS2.out.size)).trans (HS4.out.mono (HS2.out.trans (HS3.out.mono HS2.out.size)).size)).size)).size)).trans (HS7.out.mono ((((HS2.out.trans (HS3.out.mono HS2.out.size)).trans (HS4.out.mono (HS2.out.trans (HS3.out.mono HS2.out.size)).size)).trans (HS5.out.mono ((HS2.out.trans (HS3.out.mono HS2.out.size)).trans (HS4.out.mono (HS2.out.trans (HS3.out.mono HS2.out.size)).size)).size)).trans (HS6.out.mono (((HS2.out.trans (HS3.out.mono HS2.out.size)).trans (HS4.out.mono (HS2.out.trans (HS3.out.mono HS2.out.size)).size)).trans (HS5.out.mono ((HS2.out.trans (HS3.out.mono HS2.out.size)).trans (HS4.out.mono (HS2.out.trans (HS3.out.mono HS2.out.size)).size)).size)).size)).size)).size)).trans (HS9.out.mono ((((((HS2.out.trans (HS3.out.mono HS2.out.size)).trans (HS4.out.mono (HS2.out.trans (HS3.out.mono HS2.out.size)).size)).trans (HS5.out.mono ((HS2.out.trans (HS3.out.mono HS2.out.size)).trans (HS4.out.mono (HS2.out.trans (HS3.out.mono HS2.out.size)).size)).size)).trans (HS6.out.mono (((HS2.out.trans (HS3.out.mono HS2.out.size)).trans (HS4.out.mono (HS2.out.trans (HS3.out.mono HS2.out.size)).size)).trans (HS5.out.mono ((HS2.out.trans (HS3.out.mono HS2.out.size)).trans (HS4.out.mono (HS2.out.trans (HS3.out.mono HS2.out.size)).size)).size)).size)).trans (HS7.out.mono ((((HS2.out.trans (HS3.out.mono HS2.out.size)).trans (HS4.out.mono (HS2.out.trans (HS3.out.mono HS2.out.size)).size)).trans (HS5.out.mono ((HS2.out.trans (HS3.out.mono HS2.out.size)).trans (HS4.out.mono (HS2.out.trans (HS3.out.mono HS2.out.size)).size)).size)).trans (HS6.out.mono (((HS2.out.trans (HS3.out.mono HS2.out.size)).trans (HS4.out.mono (HS2.out.trans (HS3.out.mono HS2.out.size)).size)).trans (HS5.out.mono ((HS2.out.trans (HS3.out.mono HS2.out.size)).trans (HS4.out.mono (HS2.out.trans (HS3.out.mono HS2.out.size)).size)).size)).size)).size)).trans (HS8.out.mono (((((HS2.out.trans (HS3.out.mono HS2.out.size)).trans (HS4.out.mono (HS2.out.trans (HS3.out.mono HS2.out.size)).size)).trans (HS5.out.mono ((HS2.out.trans (HS3.out.mono HS2.out.size)).trans (HS4.out.mono (HS2.out.trans (HS3.out.mono HS2.out.size)).size)).size)).trans (HS6.out.mono (((HS2.out.trans (HS3.out.mono HS2.out.size)).trans (HS4.out.mono (HS2.out.trans (HS3.out.mono HS2.out.size)).size)).trans (HS5.out.mono ((HS2.out.trans (HS3.out.mono HS2.out.size)).trans (HS4.out.mono (HS2.out.trans (HS3.out.mono HS2.out.size)).size)).size)).size)).trans (HS7.out.mono ((((HS2.out.trans (HS3.out.mono HS2.out.size)).trans (HS4.out.mono (HS2.out.trans (HS3.out.mono HS2.out.size)).size)).trans (HS5.out.mono ((HS2.out.trans (HS3.out.mono HS2.out.size)).trans (HS4.out.mono (HS2.out.trans (HS3.out.mono HS2.out.size)).size)).size)).trans (HS6.out.mono (((HS2.out.trans (HS3.out.mono HS2.out.size)).trans (HS4.out.mono (HS2.out.trans (HS3.out.mono HS2.out.size)).size)).trans (HS5.out.mono ((HS2.out.trans (HS3.out.mono HS2.out.size)).trans (HS4.out.mono (HS2.out.trans (HS3.out.mono HS2.out.size)).size)).size)).size)).size)).size)).size)).size)).size)
  obtain ⟨bo, oo, rfl, hco⟩ := HONE.out.cells (by simp)
  obtain ⟨ro, qo, io⟩ := hco 0 (by simp)
  obtain ⟨ao, co, rfl⟩ := io.form
  have hq0 := qo.2
  have e0 : (rowAt [([] : List Int)] 0).length = 0 := rfl
  rw [e0, Nat.add_zero] at hq0
  clear hco qo io e0
  have HT10 : Hid (Below w.heap.size w ((w10.alloc (Obj.cells #[.int .i64 0, .int .i64 1] 3)).alloc (Obj.cells #[.slice (some ⟨w10.heap.size, 0, none⟩) 2 2] 34))) := Lib.hid (((HB10.out.alloc (by have := HB10.out.size; simp; try omega) _).alloc (by have := HB10.out.size; simp; try omega) _))
  have HQ10 : Hid (Below w10.heap.size w10 ((w10.alloc (Obj.cells #[.int .i64 0, .int .i64 1] 3)).alloc (Obj.cells #[.slice (some ⟨w10.heap.size, 0, none⟩) 2 2] 34))) := Lib.hid ((((Below.refl w10.heap.size w10).alloc (by simp; try omega) _).alloc (by simp; try omega) _))
  have HM10 := Lib.hid (((HO2.out.below (((((((HS3.out.trans (HS4.out.mono HS3.out.size)).trans (HS5.out.mono (HS3.out.trans (HS4.out.mono HS3.out.size)).size)).trans (HS6.out.mono ((HS3.out.trans (HS4.out.mono HS3.out.size)).trans (HS5.out.mono (HS3.out.trans (HS4.out.mono HS3.out.size)).size)).size)).trans (HS7.out.mono (((HS3.out.trans (HS4.out.mono HS3.out.size)).trans (HS5.out.mono (HS3.out.trans (HS4.out.mono HS3.out.size)).size)).trans (HS6.out.mono ((HS3.out.trans (HS4.out.mono HS3.out.size)).trans (HS5.out.mono (HS3.out.trans (HS4.out.mono HS3.out.size)).size)).size)).size)).trans (HS8.out.mono ((((HS3.out.trans (HS4.out.mono HS3.out.size)).trans (HS5.out.mono (HS3.out.trans (HS4.out.mono HS3.out.size)).size)).trans (HS6.out.mono ((HS3.out.trans (HS4.out.mono HS3.out.size)).trans (HS5.out.mono (HS3.out.trans (HS4.out.mono HS3.out.size)).size)).size)).trans (HS7.out.mono (((HS3.out.trans (HS4.out.mono HS3.out.size)).trans (HS5.out.mono (HS3.out.trans (HS4.out.mono HS3.out.size)).size)).trans (HS6.out.mono ((HS3.out.trans (HS4.out.mono HS3.out.size)).trans (HS5.out.mono (HS3.out.trans (HS4.out.mono HS3.out.size)).size)).size)).size)).size)).trans (HS9.out.mono (((((HS3.out.trans (HS4.out.mono HS3.out.size)).trans (HS5.out.mono (HS3.out.trans (HS4.out.mono HS3.out.size)).size)).trans (HS6.out.mono ((HS3.out.trans (HS4.out.mono HS3.out.size)).trans (HS5.out.mono (HS3.out.trans (HS4.out.mono HS3.out.size)).size)).size)).trans (HS7.out.mono (((HS3.out.trans (HS4.out.mono HS3.out.size)).trans (HS5.out.mono (HS3.out.trans (HS4.out.mono HS3.out.size)).size)).trans (HS6.out.mono ((HS3.out.trans (HS4.out.mono HS3.out.size)).trans (HS5.out.mono (HS3.out.trans (HS4.out.mono HS3.out.size)).size)).size)).size)).trans (HS8.out.mono ((((HS3.out.trans (HS4.out.mono HS3.out.size)).trans (HS5.out.mono (HS3.out.trans (HS4.out.mono HS3.out.size)).size)).trans (HS6.out.mono ((HS3.out.trans (HS4.out.mono HS3.out.size)).trans (HS5.out.mono (HS3.out.trans (HS4.out.mono HS3.out.size)).size)).size)).trans (HS7.out.mono (((HS3.out.trans (HS4.out.mono HS3.out.size)).trans (HS5.out.mono (HS3.out.trans (HS4.out.mono HS3.out.size)).size)).trans (HS6.out.mono ((HS3.out.trans (HS4.out.mono HS3.out.size)).trans (HS5.out.mono (HS3.out.trans (HS4.out.mono HS3.out.size)).size)).size)).size)).size)).size)).trans (HS10.out.mono ((((((HS3.out.trans (HS4.out.mono HS3.out.size)).trans (HS5.out.mono (HS3.out.trans (HS4.out.mono HS3.out.size)).size)).trans (HS6.out.mono ((HS3.out.trans (HS4.out.mono HS3.out.size)).trans (HS5.out.mono (HS3.out.trans (HS4.out.mono HS3.out.size)).size)).size)).trans (HS7.out.mono (((HS3.out.trans (HS4.out.mono HS3.out.size)).trans (HS5.out.mono (HS3.out.trans (HS4.out.mono HS3.out.size)).size)).trans (HS6.out.mono ((HS3.out.trans (HS4.out.mono HS3.out.size)).trans (HS5.out.mono (HS3.out.trans (HS4.out.mono HS3.out.size)).size)).size)).size)).trans (HS8.out.mono ((((HS3.out.trans (HS4.out.mono HS3.out.size)).trans (HS5.out.mono (HS3.out.trans (HS4.out.mono HS3.out.size)).size)).trans (HS6.out.mono ((HS3.out.trans (HS4.out.mono HS3.out.size)).trans (HS5.out.mono (HS3.out.trans (HS4.out.mono HS3.out.size)).size)).size)).trans (HS7.out.mono (((HS3.out.trans (HS4.out.mono HS3.out.size)).trans (HS5.out.mono (HS3.out.trans (HS4.out.mono HS3.out.size)).size)).trans (HS6.out.mono ((HS3.out.trans (HS4.out.mono HS3.out.size)).trans (HS5.out.mono (HS3.out.trans (HS4.out.mono HS3.out.size)).size)).size)).size)).size)).trans (HS9.out.mono (((((HS3.out.trans (HS4.out.mono HS3.out.size)).trans (HS5.out.mono (HS3.out.trans (HS4.out.mono HS3.out.size)).size)).trans (HS6.out.mono ((HS3.out.trans (HS4.out.mono HS3.out.size)).trans (HS5.out.mono (HS3.out.trans (HS4.out.mono HS3.out.size)).size)).size)).trans (HS7.out.mono (((HS3.out.trans (HS4.out.mono HS3.out.size)).trans (HS5.out.mono (HS3.out.trans (HS4.out.mono HS3.out.size)).size)).trans (HS6.out.mono ((HS3.out.trans (HS4.out.mono HS3.out.size)).trans (HS5.out.mono (HS3.out.trans (HS4.out.mono HS3.out.size)).size)).size)).size)).trans (HS8.out.mono ((((HS3.out.trans (HS4.out.mono HS3.out.size)).trans (HS5.out.mono (HS3.out.trans (HS4.out.mono HS3.out.size)).size)).trans (HS6.out.mono ((HS3.out.trans (HS4.out.mono HS3.out.size)).trans (HS5.out.mono (HS3.out.trans (HS4.out.mono HS3.out.size)).size)).size)).trans (HS7.out.mono (((HS3.out.trans (HS4.out.mono HS3.out.size)).trans (HS5.out.mono (HS3.out.trans (HS4.out.mono HS3.out.size)).size)).trans (HS6.out.mono ((HS3.out.trans (HS4.out.mono HS3.out.size)).trans (HS5.out.mono (HS3.out.trans (HS4.out.mono HS3.out.size)).size)).size)).size)).size)).size)).size)) (Nat.le_refl _)).mono (((((((HS3.out.trans (HS4.out.mono HS3.out.size)).trans (HS5.out.mono (HS3.out.trans (HS4.out.mono HS3.out.size)).size)).trans (HS6.out.mono ((HS3.out.trans (HS4.out.mono HS3.out.size)).trans (HS5.out.mono (HS3.out.trans (HS4.out.mono HS3.out.size)).size)).size)).trans (HS7.out.mono (((HS3.out.trans (HS4.out.mono HS3.out.size)).trans (HS5.out.mono (HS3.out.trans (HS4.out.mono HS3.out.size)).size)).trans (HS6.out.mono ((HS3.out.trans (HS4.out.mono HS3.out.size)).trans (HS5.out.mono (HS3.out.trans (HS4.out.mono HS3.out.size)).size)).size)).size)).trans (HS8.out.mono ((((HS3.out.trans (HS4.out.mono HS3.out.size)).trans (HS5.out.mono (HS3.out.trans (HS4.out.mono HS3.out.size)).size)).trans (HS6.out.mono ((HS3.out.trans (HS4.out.mono HS3.out.size)).trans (HS5.out.mono (HS3.out.trans (HS4.out.mono HS3.out.size)).size)).size)).trans (HS7.out.mono (((HS3.out.trans (HS4.out.mono HS3.out.size)).trans (HS5.out.mono (HS3.out.trans (HS4.out.mono HS3.out.size)).size)).trans (HS6.out.mono ((HS3.out.trans (HS4.out.mono HS3.out.size)).trans (HS5.out.mono (HS3.out.trans (HS4.out.mono HS3.out.size)).size)).size)).size)).size)).trans (HS9.out.mono (((((HS3.out.trans (HS4.out.mono HS3.out.size)).trans (HS5.out.mono (HS3.out.trans (HS4.out.mono HS3.out.size)).size)).trans (HS6.out.mono ((HS3.out.trans (HS4.out.mono HS3.out.size)).trans (HS5.out.mono (HS3.out.trans (HS4.out.mono HS3.out.size)).size)).size)).trans (HS7.out.mono (((HS3.out.trans (HS4.out.mono HS3.out.size)).trans (HS5.out.mono (HS3.out.trans (HS4.out.mono HS3.out.size)).size)).trans (HS6.out.mono ((HS3.out.trans (HS4.out.mono HS3.out.size)).trans (HS5.out.mono (HS3.out.trans (HS4.out.mono HS3.out.size)).size)).size)).size)).trans (HS8.out.mono ((((HS3.out.trans (HS4.out.mono HS3.out.size)).trans (HS5.out.mono (HS3.out.trans (HS4.out.mono HS3.out.size)).size)).trans (HS6.out.mono ((HS3.out.trans (HS4.out.mono HS3.out.size)).trans (HS5.out.mono (HS3.out.trans (HS4.out.mono HS3.out.size)).size)).size)).trans (HS7.out.mono (((HS3.out.trans (HS4.out.mono HS3.out.size)).trans (HS5.out.mono (HS3.out.trans (HS4.out.mono HS3.out.size)).size)).trans (HS6.out.mono ((HS3.out.trans (HS4.out.mono HS3.out.size)).trans (HS5.out.mono (HS3.out.trans (HS4.out.mono HS3.out.size)).size)).size)).size)).size)).size)).trans (HS10.out.mono ((((((HS3.out.trans (HS4.out.mono HS3.out.size)).trans (HS5.out.mono (HS3.out.trans (HS4.out.mono HS3.out.size)).size)).trans (HS6.out.mono ((HS3.out.trans (HS4.out.mono HS3.out.size)).trans (HS5.out.mono (HS3.out.trans (HS4.out.mono HS3.out.size)).size)).size)).trans (HS7.out.mono (((HS3.out.trans (HS4.out.mono HS3.out.size)).trans (HS5.out.mono (HS3.out.trans (HS4.out.mono HS3.out.size)).size)).trans (HS6.out.mono ((HS3.out.trans (HS4.out.mono HS3.out.size)).trans (HS5.out.mono (HS3.out.trans (HS4.out.mono HS3.out.size)).size)).size)).size)).trans (HS8.out.mono ((((HS3.out.trans (HS4.out.mono HS3.out.size)).trans (HS5.out.mono (HS3.out.trans (HS4.out.mono HS3.out.size)).size)).trans (HS6.out.mono ((HS3.out.trans (HS4.out.mono HS3.out.size)).trans (HS5.out.mono (HS3.out.trans (HS4.out.mono HS3.out.size)).size)).size)).trans (HS7.out.mono (((HS3.out.trans (HS4.out.mono HS3.out.size)).trans (HS5.out.mono (HS3.out.trans (HS4.out.mono HS3.out.size)).size)).trans (HS6.out.mono ((HS3.out.trans (HS4.out.mono HS3.out.size)).trans (HS5.out.mono (HS3.out.trans (HS4.out.mono HS3.out.size)).size)).size)).size)).size)).trans (HS9.out.mono (((((HS3.out.trans (HS4.out.mono HS3.out.size)).trans (HS5.out.mono (HS3.out.trans (HS4.out.mono HS3.out.size)).size)).trans (HS6.out.mono ((HS3.out.trans (HS4.out.mono HS3.out.size)).trans (HS5.out.mono (HS3.out.trans (HS4.out.mono HS3.out.size)).size)).size)).trans (HS7.out.mono (((HS3.out.trans (HS4.out.mono HS3.out.size)).trans (HS5.out.mono (HS3.out.trans (HS4.out.mono HS3.out.size)).size)).trans (HS6.out.mono ((HS3.out.trans (HS4.out.mono HS3.out.size)).trans (HS5.out.mono (HS3.out.trans (HS4.out.mono HS3.out.size)).size)).size)).size)).trans (HS8.out.mono ((((HS3.out.trans (HS4.out.mono HS3.out.size)).trans (HS5.out.mono (HS3.out.trans (HS4.out.mono HS3.out.size)).size)).trans (HS6.out.mono ((HS3.out.trans (HS4.out.mono HS3.out.size)).trans (HS5.out.mono (HS3.out.trans (HS4.out.mono HS3.out.size)).size)).size)).trans (HS7.out.mono (((HS3.out.trans (HS4.out.mono HS3.out.size)).trans (HS5.out.mono (HS3.out.trans (HS4.out.mono HS3.out.size)).size)).trans (HS6.out.mono ((HS3.out.trans (HS4.out.mono HS3.out.size)).trans (HS5.out.mono (HS3.out.trans (HS4.out.mono HS3.out.size)).size)).size)).size)).size)).size)).size)).size).below HQ10.out (Nat.le_refl _))
  have HN10 : Hid (IsMat (w10.heap.size + 1 + 1) ((w10.alloc (Obj.cells #[.int .i64 0, .int .i64 1] 3)).alloc (Obj.cells #[.slice (some ⟨w10.heap.size, 0, none⟩) 2 2] 34)) (.slice (some ⟨w10.heap.size + 1, 0, none⟩) 1 1) [[0, 1]]) := Lib.hid (litMat1 (by have h := Box.new (w10.alloc (Obj.cells #[.int .i64 0, .int .i64 1] 3)) (#[.slice (some ⟨w10.heap.size, 0, none⟩) 2 2] : Array Value) 34; simpa using h) (by omega) (litInts (b := w10.heap.size) rfl (by decide) (by omega) (by simp [I64]) (by omega) (by have h := Box.new w10 (#[.int .i64 0, .int .i64 1] : Array Value) 3; have h := h.alloc (.cells (#[.slice (some ⟨w10.heap.size, 0, none⟩) 2 2] : Array Value) 34); simpa using h)))
  go_wp2_with fail
  refine (sameM_any _ (w10.heap.size + 1 + 1) _ _ _ _ _ HM10.out HN10.out).mono ?_
  rintro e w11 ⟨rfl, hd⟩
  have hb := hd.below (w10.heap.size + 1 + 1)
  clear hd
  rw [show sameM [[0, 1]] [[0, 1]] = true from by decide]
  have HB11 : Hid (Below w.heap.size w w11) := Lib.hid (HT10.out.trans (hb.mono (by have := HT10.out.size; simp only [World.size_alloc] at this ⊢; omega)))
  have HS11 : Hid (Below w10.heap.size w10 w11) := Lib.hid (HQ10.out.trans (hb.mono (by have := HQ10.out.size; simp only [World.size_alloc] at this ⊢; omega)))
  clear hb
  have HT11 : Hid (Below w.heap.size w ((w11.alloc (Obj.cells #[.int .i64 3, .int .i64 2] 3)).alloc (Obj.cells #[.slice (some ⟨w11.heap.size, 0, none⟩) 2 2] 34))) := Lib.hid (((HB11.out.alloc (by have := HB11.out.size; simp; try omega) _).alloc (by have := HB11.out.size; simp; try omega) _))
  have HQ11 : Hid (Below w11.heap.size w11 ((w11.alloc (Obj.cells #[.int .i64 3, .int .i64 2] 3)).alloc (Obj.cells #[.slice (some ⟨w11.heap.size, 0, none⟩) 2 2] 34))) := Lib.hid ((((Below.refl w11.heap.size w11).alloc (by simp; try omega) _).alloc (by simp; try omega) _))
  have HM11 := Lib.hid (((HO3.out.below (((((((HS4.out.trans (HS5.out.mono HS4.out.size)).trans (HS6.out.mono (HS4.out.trans (HS5.out.mono HS4.out.size)).size)).trans (HS7.out.mono ((HS4.out.trans (HS5.out.mono HS4.out.size)).trans (HS6.out.mono (HS4.out.trans (HS5.out.mono HS4.out.size)).size)).size)).trans (HS8.out.mono (((HS4.out.trans (HS5.out.mono HS4.out.size)).trans (HS6.out.mono (HS4.out.trans (HS5.out.mono HS4.out.size)).size)).trans (HS7.out.mono ((HS4.out.trans (HS5.out.mono HS4.out.size)).trans (HS6.out.mono (HS4.out.trans (HS5.out.mono HS4.out.size)).size)).size)).size)).trans (HS9.out.mono ((((HS4.out.trans (HS5.out.mono HS4.out.size)).trans (HS6.out.mono (HS4.out.trans (HS5.out.mono HS4.out.size)).size)).trans (HS7.out.mono ((HS4.out.trans (HS5.out.mono HS4.out.size)).trans (HS6.out.mono (HS4.out.trans (HS5.out.mono HS4.out.size)).size)).size)).trans (HS8.out.mono (((HS4.out.trans (HS5.out.mono HS4.out.size)).trans (HS6.out.mono (HS4.out.trans (HS5.out.mono HS4.out.size)).size)).trans (HS7.out.mono ((HS4.out.trans (HS5.out.mono HS4.out.size)).trans (HS6.out.mono (HS4.out.trans (HS5.out.mono HS4.out.size)).size)).size)).size)).size)).trans (HS10.out.mono (((((HS4.out.trans (HS5.out.mono HS4.out.size)).trans (HS6.out.mono (HS4.out.trans (HS5.out.mono HS4.out.size)).size)).trans (HS7.out.mono ((HS4.out.trans (HS5.out.mono HS4.out.size)).trans (HS6.out.mono (HS4.out.trans (HS5.out.mono HS4.out.size)).size)).size)).trans (HS8.out.mono (((HS4.out.trans (HS5.out.mono HS4.out.size)).trans (HS6.out.mono (HS4.out.trans (HS5.out.mono HS4.out.size)).size)).trans (HS7.out.mono ((HS4.out.trans (HS5.out.mono HS4.out.size)).trans (HS6.out.mono (HS4.out.trans (HS5.out.mono HS4.out.size)).size)).size)).size)).trans (HS9.out.mono ((((HS4.out.trans (HS5.out.mono HS4.out.size)).trans (HS6.out.mono (HS4.out.trans (HS5.out.mono HS4.out.size)).size)).trans (HS7.out.mono ((HS4.out.trans (HS5.out.mono HS4.out.size)).trans (HS6.out.mono (HS4.out.trans (HS5.out.mono HS4.out.size)).size)).size)).trans (HS8.out.mono (((HS4.out.trans (HS5.out.mono HS4.out.size)).trans (HS6.out.mono (HS4.out.trans (HS5.out.mono HS4.out.size)).size)).trans (HS7.out.mono ((HS4.out.trans (HS5.out.mono HS4.out.size)).trans (HS6.out.mono (HS4.out.trans (HS5.out.mono HS4.out.size)).size)).size)).size)).size)).size)).trans (HS11.out.mono ((((((HS4.out.trans (HS5.out.mono HS4.out.size)).trans (HS6.out.mono (HS4.out.trans (HS5.out.mono HS4.out.size)).size)).trans (HS7.out.mono ((HS4.out.trans (HS5.out.mono HS4.out.size)).trans (HS6.out.mono (HS4.out.trans (HS5.out.mono HS4.out.size)).size)).size)).trans (HS8.out.mono (((HS4.out.trans (HS5.out.mono HS4.out.size)).trans (HS6.out.mono (HS4.out.trans (HS5.out.mono HS4.out.size)).size)).trans (HS7.out.mono ((HS4.out.trans (HS5.out.mono HS4.out.size)).trans (HS6.out.mono (HS4.out.trans (HS5.out.mono HS4.out.size)).size)).size)).size)).trans (HS9.out.mono ((((HS4.out.trans (HS5.out.mono HS4.out.size)).trans (HS6.out.mono (HS4.out.trans (HS5.out.mono HS4.out.size)).size)).trans (HS7.out.mono ((HS4.out.trans (HS5.out.mono HS4.out.size)).trans (HS6.out.mono (HS4.out.trans (HS5.out.mono HS4.out.size)).size)).size)).trans (HS8.out.mono (((HS4.out.trans (HS5.out.mono HS4.out.size)).trans (HS6.out.mono (HS4.out.trans (HS5.out.mono HS4.out.size)).size)).trans (HS7.out.mono ((HS4.out.trans (HS5.out.mono HS4.out.size)).trans (HS6.out.mono (HS4.out.trans (HS5.out.mono HS4.out.size)).size)).size)).size)).size)).trans (HS10.out.mono (((((HS4.out.trans (HS5.out.mono HS4.out.size)).trans (HS6.out.mono (HS4.out.trans (HS5.out.mono HS4.out.size)).size)).trans (HS7.out.mono ((HS4.out.trans (HS5.out.mono HS4.out.size)).trans (HS6.out.mono (HS4.out.trans (HS5.out.mono HS4.out.size)).size)).size)).trans (HS8.out.mono (((HS4.out.trans (HS5.out.mono HS4.out.size)).trans (HS6.out.mono (HS4.out.trans (HS5.out.mono HS4.out.size)).size)).trans (HS7.out.mono ((HS4.out.trans (HS5.out.mono HS4.out.size)).trans (HS6.out.mono (HS4.out.trans (HS5.out.mono HS4.out.size)).size)).size)).size)).trans (HS9.out.mono ((((HS4.out.trans (HS5.out.mono HS4.out.size)).trans (HS6.out.mono (HS4.out.trans (HS5.out.mono HS4.out.size)).size)).trans (HS7.out.mono ((HS4.out.trans (HS5.out.mono HS4.out.size)).trans (HS6.out.mono (HS4.out.trans (HS5.out.mono HS4.out.size)).size)).size)).trans (HS8.out.mono (((HS4.out.trans (HS5.out.mono HS4.out.size)).trans (HS6.out.mono (HS4.out.trans (HS5.out.mono HS4.out.size)).size)).trans (HS7.out.mono ((HS4.out.trans (HS5.out.mono HS4.out.size)).trans (HS6.out.mono (HS4.out.trans (HS5.out.mono HS4.out.size)).size)).size)).size)).size)).size)).size)) (Nat.le_refl _)).mono (((((((HS4.out.trans (HS5.out.mono HS4.out.size)).trans (HS6.out.mono (HS4.out.trans (HS5.out.mono HS4.out.size)).size)).trans (HS7.out.mono ((HS4.out.trans (HS5.out.mono HS4.out.size)).trans (HS6.out.mono (HS4.out.trans (HS5.out.mono HS4.out.size)).size)).size)).trans (HS8.out.mono (((HS4.out.trans (HS5.out.mono HS4.out.size)).trans (HS6.out.mono (HS4.out.trans (HS5.out.mono HS4.out.size)).size)).trans (HS7.out.mono ((HS4.out.trans (HS5.out.mono HS4.out.size)).trans (HS6.out.mono (HS4.out.trans (HS5.out.mono HS4.out.size)).size)).size)).size)).trans (HS9.out.mono ((((HS4.out.trans (HS5.out.mono HS4.out.size)).trans (HS6.out.mono (HS4.out.trans (HS5.out.mono HS4.out.size)).size)).trans (HS7.out.mono ((HS4.out.trans (HS5.out.mono HS4.out.size)).trans (HS6.out.mono (HS4.out.trans (HS5.out.mono HS4.out.size)).size)).size)).trans (HS8.out.mono (((HS4.out.trans (HS5.out.mono HS4.out.size)).trans (HS6.out.mono (HS4.out.trans (HS5.out.mono HS4.out.size)).size)).trans (HS7.out.mono ((HS4.out.trans (HS5.out.mono HS4.out.size)).trans (HS6.out.mono (HS4.out.trans (HS5.out.mono HS4.out.size)).size)).size)).size)).size)).trans (HS10.out.mono (((((HS4.out.trans (HS5.out.mono HS4.out.size)).trans (HS6.out.mono (HS4.out.trans (HS5.out.mono HS4.out.size)).size)).trans (HS7.out.mono ((HS4.out.trans (HS5.out.mono HS4.out.size)).trans (HS6.out.mono (HS4.out.trans (HS5.out.mono HS4.out.size)).size)).size)).trans (HS8.out.mono (((HS4.out.trans (HS5.out.mono HS4.out.size)).trans (HS6.out.mono (HS4.out.trans (HS5.out.mono HS4.out.size)).size)).trans (HS7.out.mono ((HS4.out.trans (HS5.out.mono HS4.out.size)).trans (HS6.out.mono (HS4.out.trans (HS5.out.mono HS4.out.size)).size)).size)).size)).trans (HS9.out.mono ((((HS4.out.trans (HS5.out.mono HS4.out.size)).trans (HS6.out.mono (HS4.out.trans (HS5.out.mono HS4.out.size)).size)).trans (HS7.out.mono ((HS4.out.trans (HS5.out.mono HS4.out.size)).trans (HS6.out.mono (HS4.out.trans (HS5.out.mono HS4.out.size)).size)).size)).trans (HS8.out.mono (((HS4.out.trans (HS5.out.mono HS4.out.size)).trans (HS6.out.mono (HS4.out.trans (HS5.out.mono HS4.out.size)).size)).trans (HS7.out.mono ((HS4.out.trans (HS5.out.mono HS4.out.size)).trans (HS6.out.mono (HS4.out.trans (HS5.out.mono HS4.out.size)).size)).size)).size)).size)).size)).trans (HS11.out.mono ((((((HS4.out.trans (HS5.out.mono HS4.out.size)).trans (HS6.out.mono (HS4.out.trans (HS5.out.mono HS4.out.size)).size)).trans (HS7.out.mono ((HS4.out.trans (HS5.out.mono HS4.out.size)).trans (HS6.out.mono (HS4.out.trans (HS5.out.mono HS4.out.size)).size)).size)).trans (HS8.out.mono (((HS4.out.trans (HS5.out.mono HS4.out.size)).trans (HS6.out.mono (HS4.out.trans (HS5.out.mono HS4.out.size)).size)).trans (HS7.out.mono ((HS4.out.trans (HS5.out.mono HS4.out.size)).trans (HS6.out.mono (HS4.out.trans (HS5.out.mono HS4.out.size)).size)).size)).size)).trans (HS9.out.mono ((((HS4.out.trans (HS5.out.mono HS4.out.size)).trans (HS6.out.mono (HS4.out.trans (HS5.out.mono HS4.out.size)).size)).trans (HS7.out.mono ((HS4.out.trans (HS5.out.mono HS4.out.size)).trans (HS6.out.mono (HS4.out.trans (HS5.out.mono HS4.out.size)).size)).size)).trans (HS8.out.mono (((HS4.out.trans (HS5.out.mono HS4.out.size)).trans (HS6.out.mono (HS4.out.trans (HS5.out.mono HS4.out.size)).size)).trans (HS7.out.mono ((HS4.out.trans (HS5.out.mono HS4.out.size)).trans (HS6.out.mono (HS4.out.trans (HS5.out.mono HS4.out.size)).size)).size)).size)).size)).trans (HS10.out.mono (((((HS4.out.trans (HS5.out.mono HS4.out.size)).trans (HS6.out.mono (HS4.out.trans (HS5.out.mono HS4.out.size)).size)).trans (HS7.out.mono ((HS4.out.trans (HS5.out.mono HS4.out.size)).trans (HS6.out.mono (HS4.out.trans (HS5.out.mono HS4.out.size)).size)).size)).trans (HS8.out.mono (((HS4.out.trans (HS5.out.mono HS4.out.size)).trans (HS6.out.mono (HS4.out.trans (HS5.out.mono HS4.out.size)).size)).trans (HS7.out.mono ((HS4.out.trans (HS5.out.mono HS4.out.size)).trans (HS6.out.mono (HS4.out.trans (HS5.out.mono HS4.out.size)).size)).size)).size)).trans (HS9.out.mono ((((HS4.out.trans (HS5.out.mono HS4.out.size)).trans (HS6.out.mono (HS4.out.trans (HS5.out.mono HS4.out.size)).size)).trans (HS7.out.mono ((HS4.out.trans (HS5.out.mono HS4.out.size)).trans (HS6.out.mono (HS4.out.trans (HS5.out.mono HS4.out.size)).size)).size)).trans (HS8.out.mono (((HS4.out.trans (HS5.out.mono HS4.out.size)).trans (HS6.out.mono (HS4.out.trans (HS5.out.mono HS4.out.size)).size)).trans (HS7.out.mono ((HS4.out.trans (HS5.out.mono HS4.out.size)).trans (HS6.out.mono (HS4.out.trans (HS5.out.mono HS4.out.size)).size)).size)).size)).size)).size)).size)).size).below HQ11.out (Nat.le_refl _))
  have HN11 : Hid (IsMat (w11.heap.size + 1 + 1) ((w11.alloc (Obj.cells #[.int .i64 3, .int .i64 2] 3)).alloc (Obj.cells #[.slice (some ⟨w11.heap.size, 0, none⟩) 2 2] 34)) (.slice (some ⟨w11.heap.size + 1, 0, none⟩) 1 1) [[3, 2]]) := Lib.hid (litMat1 (by have h := Box.new (w11.alloc (Obj.cells #[.int .i64 3, .int .i64 2] 3)) (#[.slice (some ⟨w11.heap.size, 0, none⟩) 2 2] : Array Value) 34; simpa using h) (by omega) (litInts (b := w11.heap.size) rfl (by decide) (by omega) (by simp [I64]) (by omega) (by have h := Box.new w11 (#[.int .i64 3, .int .i64 2] : Array Value) 3; have h := h.alloc (.cells (#[.slice (some ⟨w11.heap.size, 0, none⟩) 2 2] : Array Value) 34); simpa using h)))
  go_wp2_with fail
  refine (sameM_any _ (w11.heap.size + 1 + 1) _ _ _ _ _ HM11.out HN11.out).mono ?_
  rintro e w12 ⟨rfl, hd⟩
  have hb := hd.below (w11.heap.size + 1 + 1)
  clear hd
  rw [show sameM [[3, 2]] [[3, 2]] = true from by decide]
  have HB12 : Hid (Below w.heap.size w w12) := Lib.hid (HT11.out.trans (hb.mono (by have := HT11.out.size; simp only [World.size_alloc] at this ⊢; omega)))
  have HS12 : Hid (Below w11.heap.size w11 w12) := Lib.hid (HQ11.out.trans (hb.mono (by have := HQ11.out.size; simp only [World.size_alloc] at this ⊢; omega)))
  clear hb
  have HT12 : Hid (Below w.heap.size w (((w12.alloc (Obj.cells #[.int .i64 2, .int .i64 3] 3)).alloc (Obj.cells #[.int .i64 3, .int .i64 2] 3)).alloc (Obj.cells #[.slice (some ⟨w12.heap.size, 0, none⟩) 2 2, .slice (some ⟨w12.heap.size + 1, 0, none⟩) 2 2] 34))) := Lib.hid ((((HB12.out.alloc (by have := HB12.out.size; simp; try omega) _).alloc (by have := HB12.out.size; simp; try omega) _).alloc (by have := HB12.out.size; simp; try omega) _))
  have HQ12 : Hid (Below w12.heap.size w12 (((w12.alloc (Obj.cells #[.int .i64 2, .int .i64 3] 3)).alloc (Obj.cells #[.int .i64 3, .int .i64 2] 3)).alloc (Obj.cells #[.slice (some ⟨w12.heap.size, 0, none⟩) 2 2, .slice (some ⟨w12.heap.size + 1, 0, none⟩) 2 2] 34))) := Lib.hid (((((Below.refl w12.heap.size w12).alloc (by simp; try omega) _).alloc (by simp; try omega) _).alloc (by simp; try omega) _))
  have HM12 := Lib.hid (((HO4.out.below (((((((HS5.out.trans (HS6.out.mono HS5.out.size)).trans (HS7.out.mono (HS5.out.trans (HS6.out.mono HS5.out.size)).size)).trans (HS8.out.mono ((HS5.out.trans (HS6.out.mono HS5.out.size)).trans (HS7.out.mono (HS5.out.trans (HS6.out.mono HS5.out.size)).size)).size)).trans (HS9.out.mono (((HS5.out.trans (HS6.out.mono HS5.out.size)).trans (HS7.out.mono (HS5.out.trans (HS6.out.mono HS5.out.size)).size)).trans (HS8.out.mono ((HS5.out.trans (HS6.out.mono HS5.out.size)).trans (HS7.out.mono (HS5.out.trans (HS6.out.mono HS5.out.size)).size)).size)).size)).trans (HS10.out.mono ((((HS5.out.trans (HS6.out.mono HS5.out.size)).trans (HS7.out.mono (HS5.out.trans (HS6.out.mono HS5.out.size)).size)).trans (HS8.out.mono ((HS5.out.trans (HS6.out.mono HS5.out.size)).trans (HS7.out.mono (HS5.out.trans (HS6.out.mono HS5.out.size)).size)).size)).trans (HS9.out.mono (((HS5.out.trans (HS6.out.mono HS5.out.size)).trans (HS7.out.mono (HS5.out.trans (HS6.out.mono HS5.out.size)).size)).trans (HS8.out.mono ((HS5.out.trans (HS6.out.mono HS5.out.size)).trans (HS7.out.mono (HS5.out.trans (HS6.out.mono HS5.out.size)).size)).size)).size)).size)).trans (HS11.out.mono (((((HS5.out.trans (HS6.out.mono HS5.out.size)).trans (HS7.out.mono (HS5.out.trans (HS6.out.mono HS5.out.size)).size)).trans (HS8.out.mono ((HS5.out.trans (HS6.out.mono HS5.out.size)).trans (HS7.out.mono (HS5.out.trans (HS6.out.mono HS5.out.size)).size)).size)).trans (HS9.out.mono (((HS5.out.trans (HS6.out.mono HS5.out.size)).trans (HS7.out.mono (HS5.out.trans (HS6.out.mono HS5.out.size)).size)).trans (HS8.out.mono ((HS5.out.trans (HS6.out.mono HS5.out.size)).trans (HS7.out.mono (HS5.out.trans (HS6.out.mono HS5.out.size)).size)).size)).size)).trans (HS10.out.mono ((((HS5.out.trans (HS6.out.mono HS5.out.size)).trans (HS7.out.mono (HS5.out.trans (HS6.out.mono HS5.out.size)).size)).trans (HS8.out.mono ((HS5.out.trans (HS6.out.mono HS5.out.size)).trans (HS7.out.mono (HS5.out.trans (HS6.out.mono HS5.out.size)).size)).size)).trans (HS9.out.mono (((HS5.out.trans (HS6.out.mono HS5.out.size)).trans (HS7.out.mono (HS5.out.trans (HS6.out.mono HS5.out.size)).size)).trans (HS8.out.mono ((HS5.out.trans (HS6.out.mono HS5.out.size)).trans (HS7.out.mono (HS5.out.trans (HS6.out.mono HS5.out.size)).size)).size)).size)).size)).size)).trans (HS12.out.mono ((((((HS5.out.trans (HS6.out.mono HS5.out.size)).trans (HS7.out.mono (HS5.out.trans (HS6.out.mono HS5.out.size)).size)).trans (HS8.out.mono ((HS5.out.trans (HS6.out.mono HS5.out.size)).trans (HS7.out.mono (HS5.out.trans (HS6.out.mono HS5.out.size)).size)).size)).trans (HS9.out.mono (((HS5.out.trans (HS6.out.mono HS5.out.size)).trans (HS7.out.mono (HS5.out.trans (HS6.out.mono HS5.out.size)).size)).trans (HS8.out.mono ((HS5.out.trans (HS6.out.mono HS5.out.size)).trans (HS7.out.mono (HS5.out.trans (HS6.out.mono HS5.out.size)).size)).size)).size)).trans (HS10.out.mono ((((HS5.out.trans (HS6.out.mono HS5.out.size)).trans (HS7.out.mono (HS5.out.trans (HS6.out.mono HS5.out.size)).size)).trans (HS8.out.mono ((HS5.out.trans (HS6.out.mono HS5.out.size)).trans (HS7.out.mono (HS5.out.trans (HS6.out.mono HS5.out.size)).size)).size)).trans (HS9.out.mono (((HS5.out.trans (HS6.out.mono HS5.out.size)).trans (HS7.out.mono (HS5.out.trans (HS6.out.mono HS5.out.size)).size)).trans (HS8.out.mono ((HS5.out.trans (HS6.out.mono HS5.out.size)).trans (HS7.out.mono (HS5.out.trans (HS6.out.mono HS5.out.size)).size)).size)).size)).size)).trans (HS11.out.mono (((((HS5.out.trans (HS6.out.mono HS5.out.size)).trans (HS7.out.mono (HS5.out.trans (HS6.out.mono HS5.out.size)).size)).trans (HS8.out.mono ((HS5.out.trans (HS6.out.mono HS5.out.size)).trans (HS7.out.mono (HS5.out.trans (HS6.out.mono HS5.out.size)).size)).size)).trans (HS9.out.mono (((HS5.out.trans (HS6.out.mono HS5.out.size)).trans (HS7.out.mono (HS5.out.trans (HS6.out.mono HS5.out.size)).size)).trans (HS8.out.mono ((HS5.out.trans (HS6.out.mono HS5.out.size)).trans (HS7.out.mono (HS5.out.trans (HS6.out.mono HS5.out.size)).size)).size)).size)).trans (HS10.out.mono ((((HS5.out.trans (HS6.out.mono HS5.out.size)).trans (HS7.out.mono (HS5.out.trans (HS6.out.mono HS5.out.size)).size)).trans (HS8.out.mono ((HS5.out.trans (HS6.out.mono HS5.out.size)).trans (HS7.out.mono (HS5.out.trans (HS6.out.mono HS5.out.size)).size)).size)).trans (HS9.out.mono (((HS5.out.trans (HS6.out.mono HS5.out.size)).trans (HS7.out.mono (HS5.out.trans (HS6.out.mono HS5.out.size)).size)).trans (HS8.out.mono ((HS5.out.trans (HS6.out.mono HS5.out.size)).trans (HS7.out.mono (HS5.out.trans (HS6.out.mono HS5.out.size)).size)).size)).size)).size)).size)).size)) (Nat.le_refl _)).mono (((((((HS5.out.trans (HS6.out.mono HS5.out.size)).trans (HS7.out.mono (HS5.out.trans (HS6.out.mono HS5.out.size)).size)).trans (HS8.out.mono ((HS5.out.trans (HS6.out.mono HS5.out.size)).trans (HS7.out.mono (HS5.out.trans (HS6.out.mono HS5.out.size)).size)).size)).trans (HS9.out.mono (((HS5.out.trans (HS6.out.mono HS5.out.size)).trans (HS7.out.mono (HS5.out.trans (HS6.out.mono HS5.out.size)).size)).trans (HS8.out.mono ((HS5.out.trans (HS6.out.mono HS5.out.size)).trans (HS7.out.mono (HS5.out.trans (HS6.out.mono HS5.out.size)).size)).size)).size)).trans (HS10.out.mono ((((HS5.out.trans (HS6.out.mono HS5.out.size)).trans (HS7.out.mono (HS5.out.trans (HS6.out.mono HS5.out.size)).size)).trans (HS8.out.mono ((HS5.out.trans (HS6.out.mono HS5.out.size)).trans (HS7.out.mono (HS5.out.trans (HS6.out.mono HS5.out.size)).size)).size)).trans (HS9.out.mono (((HS5.out.trans (HS6.out.mono HS5.out.size)).trans (HS7.out.mono (HS5.out.trans (HS6.out.mono HS5.out.size)).size)).trans (HS8.out.mono ((HS5.out.trans (HS6.out.mono HS5.out.size)).trans (HS7.out.mono (HS5.out.trans (HS6.out.mono HS5.out.size)).size)).size)).size)).size)).trans (HS11.out.mono (((((HS5.out.trans (HS6.out.mono HS5.out.size)).trans (HS7.out.mono (HS5.out.trans (HS6.out.mono HS5.out.size)).size)).trans (HS8.out.mono ((HS5.out.trans (HS6.out.mono HS5.out.size)).trans (HS7.out.mono (HS5.out.trans (HS6.out.mono HS5.out.size)).size)).size)).trans (HS9.out.mono (((HS5.out.trans (HS6.out.mono HS5.out.size)).trans (HS7.out.mono (HS5.out.trans (HS6.out.mono HS5.out.size)).size)).trans (HS8.out.mono ((HS5.out.trans (HS6.out.mono HS5.out.size)).trans (HS7.out.mono (HS5.out.trans (HS6.out.mono HS5.out.size)).size)).size)).size)).trans (HS10.out.mono ((((HS5.out.trans (HS6.out.mono HS5.out.size)).trans (HS7.out.mono (HS5.out.trans (HS6.out.mono HS5.out.size)).size)).trans (HS8.out.mono ((HS5.out.trans (HS6.out.mono HS5.out.size)).trans (HS7.out.mono (HS5.out.trans (HS6.out.mono HS5.out.size)).size)).size)).trans (HS9.out.mono (((HS5.out.trans (HS6.out.mono HS5.out.size)).trans (HS7.out.mono (HS5.out.trans (HS6.out.mono HS5.out.size)).size)).trans (HS8.out.mono ((HS5.out.trans (HS6.out.mono HS5.out.size)).trans (HS7.out.mono (HS5.out.trans (HS6.out.mono HS5.out.size)).size)).size)).size)).size)).size)).trans (HS12.out.mono ((((((HS5.out.trans (HS6.out.mono HS5.out.size)).trans (HS7.out.mono (HS5.out.trans (HS6.out.mono HS5.out.size)).size)).trans (HS8.out.mono ((HS5.out.trans (HS6.out.mono HS5.out.size)).trans (HS7.out.mono (HS5.out.trans (HS6.out.mono HS5.out.size)).size)).size)).trans (HS9.out.mono (((HS5.out.trans (HS6.out.mono HS5.out.size)).trans (HS7.out.mono (HS5.out.trans (HS6.out.mono HS5.out.size)).size)).trans (HS8.out.mono ((HS5.out.trans (HS6.out.mono HS5.out.size)).trans (HS7.out.mono (HS5.out.trans (HS6.out.mono HS5.out.size)).size)).size)).size)).trans (HS10.out.mono ((((HS5.out.trans (HS6.out.mono HS5.out.size)).trans (HS7.out.mono (HS5.out.trans (HS6.out.mono HS5.out.size)).size)).trans (HS8.out.mono ((HS5.out.trans (HS6.out.mono HS5.out.size)).trans (HS7.out.mono (HS5.out.trans (HS6.out.mono HS5.out.size)).size)).size)).trans (HS9.out.mono (((HS5.out.trans (HS6.out.mono HS5.out.size)).trans (HS7.out.mono (HS5.out.trans (HS6.out.mono HS5.out.size)).size)).trans (HS8.out.mono ((HS5.out.trans (HS6.out.mono HS5.out.size)).trans (HS7.out.mono (HS5.out.trans (HS6.out.mono HS5.out.size)).size)).size)).size)).size)).trans (HS11.out.mono (((((HS5.out.trans (HS6.out.mono HS5.out.size)).trans (HS7.out.mono (HS5.out.trans (HS6.out.mono HS5.out.size)).size)).trans (HS8.out.mono ((HS5.out.trans (HS6.out.mono HS5.out.size)).trans (HS7.out.mono (HS5.out.trans (HS6.out.mono HS5.out.size)).size)).size)).trans (HS9.out.mono (((HS5.out.trans (HS6.out.mono HS5.out.size)).trans (HS7.out.mono (HS5.out.trans (HS6.out.mono HS5.out.size)).size)).trans (HS8.out.mono ((HS5.out.trans (HS6.out.mono HS5.out.size)).trans (HS7.out.mono (HS5.out.trans (HS6.out.mono HS5.out.size)).size)).size)).size)).trans (HS10.out.mono ((((HS5.out.trans (HS6.out.mono HS5.out.size)).trans (HS7.out.mono (HS5.out.trans (HS6.out.mono HS5.out.size)).size)).trans (HS8.out.mono ((HS5.out.trans (HS6.out.mono HS5.out.size)).trans (HS7.out.mono (HS5.out.trans (HS6.out.mono HS5.out.size)).size)).size)).trans (HS9.out.mono (((HS5.out.trans (HS6.out.mono HS5.out.size)).trans (HS7.out.mono (HS5.out.trans (HS6.out.mono HS5.out.size)).size)).trans (HS8.out.mono ((HS5.out.trans (HS6.out.mono HS5.out.size)).trans (HS7.out.mono (HS5.out.trans (HS6.out.mono HS5.out.size)).size)).size)).size)).size)).size)).size)).size).below HQ12.out (Nat.le_refl _))
  have HN12 : Hid (IsMat (w12.heap.size + 1 + 1 + 1) (((w12.alloc (Obj.cells #[.int .i64 2, .int .i64 3] 3)).alloc (Obj.cells #[.int .i64 3, .int .i64 2] 3)).alloc (Obj.cells #[.slice (some ⟨w12.heap.size, 0, none⟩) 2 2, .slice (some ⟨w12.heap.size + 1, 0, none⟩) 2 2] 34)) (.slice (some ⟨w12.heap.size + 1 + 1, 0, none⟩) 2 2) [[2, 3], [3, 2]]) := Lib.hid (litMat2 (by have h := Box.new ((w12.alloc (Obj.cells #[.int .i64 2, .int .i64 3] 3)).alloc (Obj.cells #[.int .i64 3, .int .i64 2] 3)) (#[.slice (some ⟨w12.heap.size, 0, none⟩) 2 2, .slice (some ⟨w12.heap.size + 1, 0, none⟩) 2 2] : Array Value) 34; simpa using h) (by omega) (litInts (b := w12.heap.size) rfl (by decide) (by omega) (by simp [I64]) (by omega) (by have h := Box.new w12 (#[.int .i64 2, .int .i64 3] : Array Value) 3; have h := h.alloc (.cells (#[.int .i64 3, .int .i64 2] : Array Value) 3); have h := h.alloc (.cells (#[.slice (some ⟨w12.heap.size, 0, none⟩) 2 2, .slice (some ⟨w12.heap.size + 1, 0, none⟩) 2 2] : Array Value) 34); simpa using h)) (litInts (b := w12.heap.size + 1) rfl (by decide) (by omega) (by simp [I64]) (by omega) (by have h := Box.new (w12.alloc (Obj.cells #[.int .i64 2, .int .i64 3] 3)) (#[.int .i64 3, .int .i64 2] : Array Value) 3; have h := h.alloc (.cells (#[.slice (some ⟨w12.heap.size, 0, none⟩) 2 2, .slice (some ⟨w12.heap.size + 1, 0, none⟩) 2 2] : Array Value) 34); simpa using h)))
  go_wp2_with fail
  refine (sameM_any _ (w12.heap.size + 1 + 1 + 1) _ _ _ _ _ HM12.out HN12.out).mono ?_
  rintro e w13 ⟨rfl, hd⟩
  have hb := hd.below (w12.heap.size + 1 + 1 + 1)
  clear hd
  rw [show sameM [[2, 3], [3, 2]] [[2, 3], [3, 2]] = true from by decide]
  have HB13 : Hid (Below w.heap.size w w13) := Lib.hid (HT12.out.trans (hb.mono (by have := HT12.out.size; simp only [World.size_alloc] at this ⊢; omega)))
  have HS13 : Hid (Below w12.heap.size w12 w13) := Lib.hid (HQ12.out.trans (hb.mono (by have := HQ12.out.size; simp only [World.size_alloc] at this ⊢; omega)))
  clear hb
  have HT13 : Hid (Below w.heap.size w (((w13.alloc (Obj.cells #[.int .i64 3, .int .i64 1, .int .i64 4] 3)).alloc (Obj.cells #[.int .i64 4, .int .i64 1, .int .i64 3] 3)).alloc (Obj.cells #[.slice (some ⟨w13.heap.size, 0, none⟩) 3 3, .slice (some ⟨w13.heap.size + 1, 0, none⟩) 3 3] 34))) := Lib.hid ((((HB13.out.alloc (by have := HB13.out.size; simp; try omega) _).alloc (by have := HB13.out.size; simp; try omega) _).alloc (by have := HB13.out.size; simp; try omega) _))
  have HQ13 : Hid (Below w13.heap.size w13 (((w13.alloc (Obj.cells #[.int .i64 3, .int .i64 1, .int .i64 4] 3)).alloc (Obj.cells #[.int .i64 4, .int .i64 1, .int .i64 3] 3)).alloc (Obj.cells #[.slice (some ⟨w13.heap.size, 0, none⟩) 3 3, .slice (some ⟨w13.heap.size + 1, 0, none⟩) 3 3] 34))) := Lib.hid (((((Below.refl w13.heap.size w13).alloc (by simp; try omega) _).alloc (by simp; try omega) _).alloc (by simp; try omega) _))
  have HM13 := Lib.hid (((HO5.out.below (((((((HS6.out.trans (HS7.out.mono HS6.out.size)).trans (HS8.out.mono (HS6.out.trans (HS7.out.mono HS6.out.size)).size)).trans (HS9.out.mono ((HS6.out.trans (HS7.out.mono HS6.out.size)).trans (HS8.out.mono (HS6.out.trans (HS7.out.mono HS6.out.size)).size)).size)).trans (HS10.out.mono (((HS6.out.trans (HS7.out.mono HS6.out.size)).trans (HS8.out.mono (HS6.out.trans (HS7.out.mono HS6.out.size)).size)).trans (HS9.out.mono ((HS6.out.trans (HS7.out.mono HS6.out.size)).trans (HS8.out.mono (HS6.out.trans (HS7.out.mono HS6.out.size)).size)).size)).size)).trans (HS11.out.mono ((((HS6.out.trans (HS7.out.mono HS6.out.size)).trans (HS8.out.mono (HS6.out.trans (HS7.out.mono HS6.out.size)).size)).trans (HS9.out.mono ((HS6.out.trans (HS7.out.mono HS6.out.size)).trans (HS8.out.mono (HS6.out.trans (HS7.out.mono HS6.out.size)).size)).size)).trans (HS10.out.mono (((HS6.out.trans (HS7.out.mono HS6.out.size)).trans (HS8.out.mono (HS6.out.trans (HS7.out.mono HS6.out.size)).size)).trans (HS9.out.mono ((HS6.out.trans (HS7.out.mono HS6.out.size)).trans (HS8.out.mono (HS6.out.trans (HS7.out.mono HS6.out.size)).size)).size)).size)).size)).trans (HS12.out.mono (((((HS6.out.trans (HS7.out.mono HS6.out.size)).trans (HS8.out.mono (HS6.out.trans (HS7.out.mono HS6.out.size)).size)).trans (HS9.out.mono ((HS6.out.trans (HS7.out.mono HS6.out.size)).trans (HS8.out.mono (HS6.out.trans (HS7.out.mono HS6.out.size)).size)).size)).trans (HS10.out.mono (((HS6.out.trans (HS7.out.mono HS6.out.size)).trans (HS8.out.mono (HS6.out.trans (HS7.out.mono HS6.out.size)).size)).trans (HS9.out.mono ((HS6.out.trans (HS7.out.mono HS6.out.size)).trans (HS8.out.mono (HS6.out.trans (HS7.out.mono HS6.out.size)).size)).size)).size)).trans (HS11.out.mono ((((HS6.out.trans (HS7.out.mono HS6.out.size)).trans (HS8.out.mono (HS6.out.trans (HS7.out.mono HS6.out.size)).size)).trans (HS9.out.mono ((HS6.out.trans (HS7.out.mono HS6.out.size)).trans (HS8.out.mono (HS6.out.trans (HS7.out.mono HS6.out.size)).size)).size)).trans (HS10.out.mono (((HS6.out.trans (HS7.out.mono HS6.out.size)).trans (HS8.out.mono (HS6.out.trans (HS7.out.mono HS6.out.size)).size)).trans (HS9.out.mono ((HS6.out.trans (HS7.out.mono HS6.out.size)).trans (HS8.out.mono (HS6.out.trans (HS7.out.mono HS6.out.size)).size)).size)).size)).size)).size)).trans (HS13.out.mono ((((((HS6.out.trans (HS7.out.mono HS6.out.size)).trans (HS8.out.mono (HS6.out.trans (HS7.out.mono HS6.out.size)).size)).trans (HS9.out.mono ((HS6.out.trans (HS7.out.mono HS6.out.size)).trans (HS8.out.mono (HS6.out.trans (HS7.out.mono HS6.out.size)).size)).size)).trans (HS10.out.mono (((HS6.out.trans (HS7.out.mono HS6.out.size)).trans (HS8.out.mono (HS6.out.trans (HS7.out.mono HS6.out.size)).size)).trans (HS9.out.mono ((HS6.out.trans (HS7.out.mono HS6.out.size)).trans (HS8.out.mono (HS6.out.trans (HS7.out.mono HS6.out.size)).size)).size)).size)).trans (HS11.out.mono ((((HS6.out.trans (HS7.out.mono HS6.out.size)).trans (HS8.out.mono (HS6.out.trans (HS7.out.mono HS6.out.size)).size)).trans (HS9.out.mono ((HS6.out.trans (HS7.out.mono HS6.out.size)).trans (HS8.out.mono (HS6.out.trans (HS7.out.mono HS6.out.size)).size)).size)).trans (HS10.out.mono (((HS6.out.trans (HS7.out.mono HS6.out.size)).trans (HS8.out.mono (HS6.out.trans (HS7.out.mono HS6.out.size)).size)).trans (HS9.out.mono ((HS6.out.trans (HS7.out.mono HS6.out.size)).trans (HS8.out.mono (HS6.out.trans (HS7.out.mono HS6.out.size)).size)).size)).size)).size)).trans (HS12.out.mono (((((HS6.out.trans (HS7.out.mono HS6.out.size)).trans (HS8.out.mono (HS6.out.trans (HS7.out.mono HS6.out.size)).size)).trans (HS9.out.mono ((HS6.out.trans (HS7.out.mono HS6.out.size)).trans (HS8.out.mono (HS6.out.trans (HS7.out.mono HS6.out.size)).size)).size)).trans (HS10.out.mono (((HS6.out.trans (HS7.out.mono HS6.out.size)).trans (HS8.out.mono (HS6.out.trans (HS7.out.mono HS6.out.size)).size)).trans (HS9.out.mono ((HS6.out.trans (HS7.out.mono HS6.out.size)).trans (HS8.out.mono (HS6.out.trans (HS7.out.mono HS6.out.size)).size)).size)).size)).trans (HS11.out.mono ((((HS6.out.trans (HS7.out.mono HS6.out.size)).trans (HS8.out.mono (HS6.out.trans (HS7.out.mono HS6.out.size)).size)).trans (HS9.out.mono ((HS6.out.trans (HS7.out.mono HS6.out.size)).trans (HS8.out.mono (HS6.out.trans (HS7.out.mono HS6.out.size)).size)).size)).trans (HS10.out.mono (((HS6.out.trans (HS7.out.mono HS6.out.size)).trans (HS8.out.mono (HS6.out.trans (HS7.out.mono HS6.out.size)).size)).trans (HS9.out.mono ((HS6.out.trans (HS7.out.mono HS6.out.size)).trans (HS8.out.mono (HS6.out.trans (HS7.out.mono HS6.out.size)).size)).size)).size)).size)).size)).size)) (Nat.le_refl _)).mono (((((((HS6.out.trans (HS7.out.mono HS6.out.size)).trans (HS8.out.mono (HS6.out.trans (HS7.out.mono HS6.out.size)).size)).trans (HS9.out.mono ((HS6.out.trans (HS7.out.mono HS6.out.size)).trans (HS8.out.mono (HS6.out.trans (HS7.out.mono HS6.out.size)).size)).size)).trans (HS10.out.mono (((HS6.out.trans (HS7.out.mono HS6.out.size)).trans (HS8.out.mono (HS6.out.trans (HS7.out.mono HS6.out.size)).size)).trans (HS9.out.mono ((HS6.out.trans (HS7.out.mono HS6.out.size)).trans (HS8.out.mono (HS6.out.trans (HS7.out.mono HS6.out.size)).size)).size)).size)).trans (HS11.out.mono ((((HS6.out.trans (HS7.out.mono HS6.out.size)).trans (HS8.out.mono (HS6.out.trans (HS7.out.mono HS6.out.size)).size)).trans (HS9.out.mono ((HS6.out.trans (HS7.out.mono HS6.out.size)).trans (HS8.out.mono (HS6.out.trans (HS7.out.mono HS6.out.size)).size)).size)).trans (HS10.out.mono (((HS6.out.trans (HS7.out.mono HS6.out.size)).trans (HS8.out.mono (HS6.out.trans (HS7.out.mono HS6.out.size)).size)).trans (HS9.out.mono ((HS6.out.trans (HS7.out.mono HS6.out.size)).trans (HS8.out.mono (HS6.out.trans (HS7.out.mono HS6.out.size)).size)).size)).size)).size)).trans (HS12.out.mono (((((HS6.out.trans (HS7.out.mono HS6.out.size)).trans (HS8.out.mono (HS6.out.trans (HS7.out.mono HS6.out.size)).size)).trans (HS9.out.mono ((HS6.out.trans (HS7.out.mono HS6.out.size)).trans (HS8.out.mono (HS6.out.trans (HS7.out.mono HS6.out.size)).size)).size)).trans (HS10.out.mono (((HS6.out.trans (HS7.out.mono HS6.out.size)).trans (HS8.out.mono (HS6.out.trans (HS7.out.mono HS6.out.size)).size)).trans (HS9.out.mono ((HS6.out.trans (HS7.out.mono HS6.out.size)).trans (HS8.out.mono (HS6.out.trans (HS7.out.mono HS6.out.size)).size)).size)).size)).trans (HS11.out.mono ((((HS6.out.trans (HS7.out.mono HS6.out.size)).trans (HS8.out.mono (HS6.out.trans (HS7.out.mono HS6.out.size)).size)).trans (HS9.out.mono ((HS6.out.trans (HS7.out.mono HS6.out.size)).trans (HS8.out.mono (HS6.out.trans (HS7.out.mono HS6.out.size)).size)).size)).trans (HS10.out.mono (((HS6.out.trans (HS7.out.mono HS6.out.size)).trans (HS8.out.mono (HS6.out.trans (HS7.out.mono HS6.out.size)).size)).trans (HS9.out.mono ((HS6.out.trans (HS7.out.mono HS6.out.size)).trans (HS8.out.mono (HS6.out.trans (HS7.out.mono HS6.out.size)).size)).size)).size)).size)).size)).trans (HS13.out.mono ((((((HS6.out.trans (HS7.out.mono HS6.out.size)).trans (HS8.out.mono (HS6.out.trans (HS7.out.mono HS6.out.size)).size)).trans (HS9.out.mono ((HS6.out.trans (HS7.out.mono HS6.out.size)).trans (HS8.out.mono (HS6.out.trans (HS7.out.mono HS6.out.size)).size)).size)).trans (HS10.out.mono (((HS6.out.trans (HS7.out.mono HS6.out.size)).trans (HS8.out.mono (HS6.out.trans (HS7.out.mono HS6.out.size)).size)).trans (HS9.out.mono ((HS6.out.trans (HS7.out.mono HS6.out.size)).trans (HS8.out.mono (HS6.out.trans (HS7.out.mono HS6.out.size)).size)).size)).size)).trans (HS11.out.mono ((((HS6.out.trans (HS7.out.mono HS6.out.size)).trans (HS8.out.mono (HS6.out.trans (HS7.out.mono HS6.out.size)).size)).trans (HS9.out.mono ((HS6.out.trans (HS7.out.mono HS6.out.size)).trans (HS8.out.mono (HS6.out.trans (HS7.out.mono HS6.out.size)).size)).size)).trans (HS10.out.mono (((HS6.out.trans (HS7.out.mono HS6.out.size)).trans (HS8.out.mono (HS6.out.trans (HS7.out.mono HS6.out.size)).size)).trans (HS9.out.mono ((HS6.out.trans (HS7.out.mono HS6.out.size)).trans (HS8.out.mono (HS6.out.trans (HS7.out.mono HS6.out.size)).size)).size)).size)).size)).trans (HS12.out.mono (((((HS6.out.trans (HS7.out.mono HS6.out.size)).trans (HS8.out.mono (HS6.out.trans (HS7.out.mono HS6.out.size)).size)).trans (HS9.out.mono ((HS6.out.trans (HS7.out.mono HS6.out.size)).trans (HS8.out.mono (HS6.out.trans (HS7.out.mono HS6.out.size)).size)).size)).trans (HS10.out.mono (((HS6.out.trans (HS7.out.mono HS6.out.size)).trans (HS8.out.mono (HS6.out.trans (HS7.out.mono HS6.out.size)).size)).trans (HS9.out.mono ((HS6.out.trans (HS7.out.mono HS6.out.size)).trans (HS8.out.mono (HS6.out.trans (HS7.out.mono HS6.out.size)).size)).size)).size)).trans (HS11.out.mono ((((HS6.out.trans (HS7.out.mono HS6.out.size)).trans (HS8.out.mono (HS6.out.trans (HS7.out.mono HS6.out.size)).size)).trans (HS9.out.mono ((HS6.out.trans (HS7.out.mono HS6.out.size)).trans (HS8.out.mono (HS6.out.trans (HS7.out.mono HS6.out.size)).size)).size)).trans (HS10.out.mono (((HS6.out.trans (HS7.out.mono HS6.out.size)).trans (HS8.out.mono (HS6.out.trans (HS7.out.mono HS6.out.size)).size)).trans (HS9.out.mono ((HS6.out.trans (HS7.out.mono HS6.out.size)).trans (HS8.out.mono (HS6.out.trans (HS7.out.mono HS6.out.size)).size)).size)).size)).size)).size)).size)).size).below HQ13.out (Nat.le_refl _))
  have HN13 : Hid (IsMat (w13.heap.size + 1 + 1 + 1) (((w13.alloc (Obj.cells #[.int .i64 3, .int .i64 1, .int .i64 4] 3)).alloc (Obj.cells #[.int .i64 4, .int .i64 1, .int .i64 3] 3)).alloc (Obj.cells #[.slice (some ⟨w13.heap.size, 0, none⟩) 3 3, .slice (some ⟨w13.heap.size + 1, 0, none⟩) 3 3] 34)) (.slice (some ⟨w13.heap.size + 1 + 1, 0, none⟩) 2 2) [[3, 1, 4], [4, 1, 3]]) := Lib.hid (litMat2 (by have h := Box.new ((w13.alloc (Obj.cells #[.int .i64 3, .int .i64 1, .int .i64 4] 3)).alloc (Obj.cells #[.int .i64 4, .int .i64 1, .int .i64 3] 3)) (#[.slice (some ⟨w13.heap.size, 0, none⟩) 3 3, .slice (some ⟨w13.heap.size + 1, 0, none⟩) 3 3] : Array Value) 34; simpa using h) (by omega) (litInts (b := w13.heap.size) rfl (by decide) (by omega) (by simp [I64]) (by omega) (by have h := Box.new w13 (#[.int .i64 3, .int .i64 1, .int .i64 4] : Array Value) 3; have h := h.alloc (.cells (#[.int .i64 4, .int .i64 1, .int .i64 3] : Array Value) 3); have h := h.alloc (.cells (#[.slice (some ⟨w13.heap.size, 0, none⟩) 3 3, .slice (some ⟨w13.heap.size + 1, 0, none⟩) 3 3] : Array Value) 34); simpa using h)) (litInts (b := w13.heap.size + 1) rfl (by decide) (by omega) (by simp [I64]) (by omega) (by have h := Box.new (w13.alloc (Obj.cells #[.int .i64 3, .int .i64 1, .int .i64 4] 3)) (#[.int .i64 4, .int .i64 1, .int .i64 3] : Array Value) 3; have h := h.alloc (.cells (#[.slice (some ⟨w13.heap.size, 0, none⟩) 3 3, .slice (some ⟨w13.heap.size + 1, 0, none⟩) 3 3] : Array Value) 34); simpa using h)))
  go_wp2_with fail
  refine (sameM_any _ (w13.heap.size + 1 + 1 + 1) _ _ _ _ _ HM13.out HN13.out).mono ?_
  rintro e w14 ⟨rfl, hd⟩
  have hb := hd.below (w13.heap.size + 1 + 1 + 1)
  clear hd
  rw [show sameM [[3, 1, 4], [4, 1, 3]] [[3, 1, 4], [4, 1, 3]] = true from by decide]
  have HB14 : Hid (Below w.heap.size w w14) := Lib.hid (HT13.out.trans (hb.mono (by have := HT13.out.size; simp only [World.size_alloc] at this ⊢; omega)))
  have HS14 : Hid (Below w13.heap.size w13 w14) := Lib.hid (HQ13.out.trans (hb.mono (by have := HQ13.out.size; simp only [World.size_alloc] at this ⊢; omega)))
  clear hb
  go_wp2
  go_ret
  exact ⟨rfl, HB14.out⟩

end Go.Proofs.Ythekefnocphcdaa

set_option linter.unusedVariables false

set_option linter.unusedSimpArgs false

namespace Go.Proofs.Ythekefnocphcdaa

theorem row_mem {L : List (List Int)} {j : Nat} (h : j < L.length) : rowAt L j ∈ L := by
  unfold rowAt
  rw [List.getD_eq_getElem?_getD, List.getElem?_eq_getElem h]
  exact List.getElem_mem h

theorem mem_row {L : List (List Int)} {p : List Int} (h : p ∈ L) : ∃ j, j < L.length ∧ rowAt L j = p := by
  obtain ⟨j, hj, e⟩ := List.getElem_of_mem h
  refine ⟨j, hj, ?_⟩
  unfold rowAt
  rw [List.getD_eq_getElem?_getD, List.getElem?_eq_getElem hj, ← e]
  rfl

end Go.Proofs.Ythekefnocphcdaa

set_option linter.unusedVariables false

set_option linter.unusedSimpArgs false

namespace Go.Proofs.Ythekefnocphcdaa

theorem allE_cases {f : Flow} (hc : checkE f = 0) : allE f = 0 ∨ allE f = 2 := by
  unfold allE
  rw [if_neg (by simp [hc])]
  split
  · exact .inr rfl
  · split
    · exact .inr rfl
    · exact .inl rfl

end Go.Proofs.Ythekefnocphcdaa

set_option linter.unusedVariables false

set_option linter.unusedSimpArgs false

namespace Go.Proofs.Ythekefnocphcdaa

theorem ins_le {f : Flow} (h0 : 0 ≤ f.senders) {k : Nat} (hl : lotsB f (k + 1) = true) : (lotAt f.lots k).ins.length ≤ f.senders.toNat := by
  have hl' : lotsB f k = true := by simp only [lotsB, Bool.and_eq_true] at hl; exact hl.1
  have hlot := lotsB_lot hl (show k < k + 1 by omega)
  obtain ⟨p, hp⟩ := List.exists_mem_of_ne_nil _ (asg_ne h0 k hl')
  obtain ⟨_, hnd, hin, _⟩ := lotB_parts hlot
  have hA := asg_all h0 k hl' p hp
  rw [← asg_len k p hp]
  exact nodup_len hnd fun x hx => (hA.2 x).2 (hin x hx)

end Go.Proofs.Ythekefnocphcdaa

set_option linter.unusedVariables false

set_option linter.unusedSimpArgs false

namespace Go.Proofs.Ythekefnocphcdaa

open Go.RowKit

/-- what holds while the lots are copied; x2 the empty list, x5 the copy, x6 the flow's value, x7 its box -/
structure AC (w1 : World) (ls : List Lot) (v1 : Value) (L : Nat → Bool) (x2 x5 x6 x7 : Value) (w : World) : Prop where
  hb : Below w1.heap.size w1 w
  h2 : L 2 = true → L 5 = false → OwnLots w1.heap.size w x2 []
  h5 : L 5 = true → OwnLots w1.heap.size w x5 ls
  h6 : L 6 = true → x6 = .agg #[v1, x5]
  h7 : L 7 = true → L 8 = false → ∃ p, x7 = .pointer (some ⟨p, 0, none⟩) ∧ w1.heap.size ≤ p ∧ CellsN w p #[.int .i64 0, .slice none 0 0] ∧ (L 2 = true → x2.ownBlock ≠ some p) ∧ (L 5 = true → x5.ownBlock ≠ some p)
  h8 : L 8 = true → MoreCut w1 ls v1 x7 w
  l2 : L 2 = true → ∀ k, x2.ownBlock = some k → k < w.heap.size
  l5 : L 5 = true → ∀ k, x5.ownBlock = some k → k < w.heap.size
  c6 : L 6 = true → L 5 = true
  c8 : L 8 = true → L 7 = true ∧ L 6 = true ∧ L 5 = true ∧ L 2 = true

section

variable {w1 : World} {ls : List Lot} {v1 : Value} {L : Nat → Bool} {x2 x5 x6 x7 : Value} {w : World}

theorem AC.start (hb : Below w1.heap.size w1 w) : AC w1 ls v1 (fun _ => false) x2 x5 x6 x7 w :=
  { hb := hb, h2 := (by intro h; cases h), h5 := (by intro h; cases h), h6 := (by intro h; cases h), h7 := (by intro h; cases h), h8 := (by intro h; cases h), l2 := (by intro h; cases h), l5 := (by intro h; cases h),
    c6 := (by intro h; cases h), c8 := (by intro h; cases h) }

variable (h : AC w1 ls v1 L x2 x5 x6 x7 w)
include h

theorem AC.pass {i : Nat} (hi : i = 0 ∨ i = 1 ∨ i = 3 ∨ i = 4) : AC w1 ls v1 (upd L i) x2 x5 x6 x7 w := by
  have e : ∀ j, j = 2 ∨ j = 5 ∨ j = 6 ∨ j = 7 ∨ j = 8 → upd L i j = L j := fun j hj => upd_ne (by omega)
  exact {
    hb := h.hb, h2 := (by rw [e 2 (by omega), e 5 (by omega)]; exact h.h2), h5 := (by rw [e 5 (by omega)]; exact h.h5), h6 := (by rw [e 6 (by omega)]; exact h.h6), h7 := (by rw [e 7 (by omega), e 8 (by omega), e 2 (by omega), e 5 (by omega)]; exact h.h7),
    h8 := (by rw [e 8 (by omega)]; exact h.h8), l2 := (by rw [e 2 (by omega)]; exact h.l2), l5 := (by rw [e 5 (by omega)]; exact h.l5), c6 := (by rw [e 6 (by omega), e 5 (by omega)]; exact h.c6), c8 := (by rw [e 8 (by omega), e 7 (by omega), e 6 (by omega), e 5 (by omega), e 2 (by omega)]; exact h.c8) }

theorem AC.no8 {i : Nat} (hi : L i = false) (hm : i = 2 ∨ i = 5 ∨ i = 6 ∨ i = 7) : L 8 = false := by
  cases e : L 8 with
  | false => rfl
  | true =>
    obtain ⟨e7, e6, e5, e2⟩ := h.c8 e
    rcases hm with rfl | rfl | rfl | rfl <;> simp_all

theorem AC.more (hi : L 8 = false) (o : Obj) : AC w1 ls v1 L x2 x5 x6 x7 (w.alloc o) :=
  { hb := h.hb.alloc h.hb.size _, h2 := (fun a b => (h.h2 a b).allocX h.hb.size o), h5 := (fun a => (h.h5 a).allocX h.hb.size o), h6 := h.h6,
    h7 := (fun a b => by obtain ⟨p, e1, e2, e3, e4, e5⟩ := h.h7 a b; exact ⟨p, e1, e2, e3.alloc _, e4, e5⟩), h8 := (fun e => by rw [hi] at e; cases e),
    l2 := (fun e k hk => by have := h.l2 e k hk; simp; omega), l5 := (fun e k hk => by have := h.l5 e k hk; simp; omega), c6 := h.c6, c8 := h.c8 }

theorem AC.s2 (hi : L 2 = false) : AC w1 ls v1 (upd L 2) (.slice (some ⟨w.heap.size, 0, none⟩) 0 0) x5 x6 x7 (w.alloc (.cells #[] 39)) := by
  have hno := h.no8 hi (by simp)
  have h' := h.more hno (.cells #[] 39)
  exact {
    hb := h'.hb, h2 := (fun _ _ => OwnLots.made rfl h.hb.size), h5 := h'.h5, h6 := h'.h6,
    h7 := (fun a b => by obtain ⟨p, e1, e2, e3, e4, e5⟩ := h.h7 a b; exact ⟨p, e1, e2, e3.alloc _, (fun _ => by have := e3.lt; simp [Value.ownBlock]; omega), e5⟩), h8 := h'.h8,
    l2 := (fun _ k hk => by simp [Value.ownBlock] at hk; simp; omega), l5 := h'.l5, c6 := h'.c6, c8 := (fun e => by rw [show upd L 2 8 = L 8 from rfl, hno] at e; cases e) }

theorem AC.s5 (hi : L 5 = false) (h2 : L 2 = true) {v' : Value} {w' : World} (ho : OwnLots w1.heap.size w' v' ls) (hg : w.grownBy w' x2.ownBlock) (hat : v'.ownBlock = x2.ownBlock ∨ v'.ownBlock = some w.heap.size) :
    AC w1 ls v1 (upd L 5) x2 v' x6 x7 w' := by
  have hno := h.no8 hi (by simp)
  have hlo := (h.h2 h2 hi).ltX
  have hn6 : L 6 = false := by
    cases e : L 6 with
    | false => rfl
    | true => have := h.c6 e; rw [hi] at this; cases this
  exact {
    hb := h.hb.grown hg h.hb.size (fun k hk => (hlo k hk).1), h2 := (fun _ e => by cases e), h5 := (fun _ => ho), h6 := (fun e => by rw [show upd L 5 6 = L 6 from rfl, hn6] at e; cases e),
    h7 := (fun a b => by
      obtain ⟨p, e1, e2, e3, e4, e5⟩ := h.h7 a b
      refine ⟨p, e1, e2, e3.grown hg (fun e => e4 h2 e.symm), e4, fun _ => ?_⟩
      rcases hat with e | e
      · rw [e]; exact e4 h2
      · rw [e]; intro e'; have := e3.lt; simp at e'; omega), h8 := (fun e => by rw [show upd L 5 8 = L 8 from rfl, hno] at e; cases e),
    l2 := (fun e k hk => by have := h.l2 e k hk; have := hg.size; omega), l5 := (fun _ k hk => (ho.ltX k hk).2), c6 := (fun _ => rfl), c8 := (fun e => by rw [show upd L 5 8 = L 8 from rfl, hno] at e; cases e) }

theorem AC.s6 (hi : L 6 = false) (h5 : L 5 = true) : AC w1 ls v1 (upd L 6) x2 x5 (.agg #[v1, x5]) x7 w := by
  have hno := h.no8 hi (by simp)
  exact {
    hb := h.hb, h2 := h.h2, h5 := h.h5, h6 := (fun _ => rfl), h7 := h.h7, h8 := (fun e => by rw [show upd L 6 8 = L 8 from rfl, hno] at e; cases e), l2 := h.l2, l5 := h.l5, c6 := (fun _ => h5),
    c8 := (fun e => by rw [show upd L 6 8 = L 8 from rfl, hno] at e; cases e) }

theorem AC.s7 (hi : L 7 = false) (t : TypeId) : AC w1 ls v1 (upd L 7) x2 x5 x6 (.pointer (some ⟨w.heap.size, 0, none⟩)) (w.alloc (.cells #[.int .i64 0, .slice none 0 0] t)) := by
  have hno := h.no8 hi (by simp)
  have h' := h.more hno (.cells #[.int .i64 0, .slice none 0 0] t)
  exact {
    hb := h'.hb, h2 := h'.h2, h5 := h'.h5, h6 := h'.h6,
    h7 := (fun _ _ => ⟨w.heap.size, rfl, h.hb.size, CellsN.new w _ t, (fun q e => by have := h.l2 q _ e; omega), (fun q e => by have := h.l5 q _ e; omega)⟩), h8 := (fun e => by rw [show upd L 7 8 = L 8 from rfl, hno] at e; cases e),
    l2 := h'.l2, l5 := h'.l5, c6 := h'.c6, c8 := (fun e => by rw [show upd L 7 8 = L 8 from rfl, hno] at e; cases e) }

theorem AC.s8 (hi : L 8 = false) (h7 : L 7 = true) (h6 : L 6 = true) (h5 : L 5 = true) (h2 : L 2 = true) {p n c : Nat} {a : Option Addr} (hp : x7 = .pointer (some ⟨p, 0, none⟩)) (he : x5 = .slice a n c) :
    AC w1 ls v1 (upd L 8) x2 x5 x6 x7 ((w.setCell ⟨p, 0, none⟩ v1).setCell ⟨p, 1, none⟩ (.slice a n c)) := by
  obtain ⟨p', e1, e2, e3, e4, e5⟩ := h.h7 h7 hi
  rw [hp] at e1
  obtain rfl : p = p' := by simpa using e1
  have hz := h.hb.size
  have o1 := (h.h5 h5).setX hz e2 (e5 h5) 0 v1
  have o2 := o1.setX (by simpa [World.setCell] using hz) e2 (e5 h5) 1 (.slice a n c)
  have b1 := (h.hb.setCell (p := ⟨p, 0, none⟩) e2 v1).setCell (p := ⟨p, 1, none⟩) e2 (.slice a n c)
  have k1 := (e3.set 0 v1).set 1 (.slice a n c)
  exact {
    hb := b1, h2 := (fun _ e => by rw [show upd L 8 5 = L 5 from rfl, h5] at e; cases e), h5 := (fun _ => o2), h6 := h.h6, h7 := (fun _ e => by cases e),
    h8 := (fun _ => ⟨p, n, c, a, hp, e2, (by simpa using k1), (by rw [← he]; rw [← he] at o2; exact o2), b1⟩),
    l2 := (fun e k hk => by have := h.l2 e k hk; simpa [World.setCell] using this), l5 := (fun e k hk => by have := h.l5 e k hk; simpa [World.setCell] using this), c6 := h.c6, c8 := (fun _ => ⟨h7, h6, h5, h2⟩) }

end

theorem flat_set {l : List V3} {k : Nat} (hk : k < l.length) (u : V3) : ((((flat l).set (k * 3) u.i).set (k * 3 + 1) u.k).set (k * 3 + 2) u.p) = flat (l.set k u) := by
  induction l generalizing k with
  | nil => simp at hk
  | cons a l ih =>
    cases k with
    | zero => rfl
    | succ k =>
      have h := ih (k := k) (by simpa using hk)
      simp only [List.set_cons_succ, flat]
      rw [show (k + 1) * 3 = k * 3 + 3 by omega]
      simp only [List.set_cons_succ]
      rw [h]

theorem v3At_set {l : List V3} {k j : Nat} (hk : k < l.length) (u : V3) : v3At (l.set k u) j = if j = k then u else v3At l j := by
  unfold v3At
  rw [List.getD_eq_getElem?_getD, List.getElem?_set]
  by_cases e : j = k
  · subst e; simp [hk]
  · rw [if_neg (fun h => e h.symm), if_neg e, List.getD_eq_getElem?_getD]

theorem lotAt_setL {l : List Lot} {k j : Nat} (hk : k < l.length) (u : Lot) : lotAt (l.set k u) j = if j = k then u else lotAt l j := by
  unfold lotAt
  rw [List.getD_eq_getElem?_getD, List.getElem?_set]
  by_cases e : j = k
  · subst e; simp [hk]
  · rw [if_neg (fun h => e h.symm), if_neg e, List.getD_eq_getElem?_getD]

theorem OwnLots.store {C : Nat} {w : World} {g n cap k : Nat} {ls : List Lot} {x : Lot} {vi vk vp : Value} (h : OwnLots C w (.slice (some ⟨g, 0, none⟩) n cap) ls) (hn : n = ls.length) (hk : k < ls.length)
    (hx : IsLot C w vi vk vp x) : OwnLots C (((w.setCell ⟨g, k * 3, none⟩ vi).setCell ⟨g, k * 3 + 1, none⟩ vk).setCell ⟨g, k * 3 + 2, none⟩ vp) (.slice (some ⟨g, 0, none⟩) n cap) (ls.set k x) := by
  subst hn
  obtain ⟨vals, h1, h2, h3, h4⟩ := h
  have hg : C ≤ g := (h1.lt g rfl).1
  have s1 := (h1.stored (k * 3) vi).1
  have s2 := (s1.stored (k * 3 + 1) vk).1
  have s3 := (s2.stored (k * 3 + 2) vp).1
  rw [flat_set (by omega) ⟨vi, vk, vp⟩] at s3
  have hb : Below C w (((w.setCell ⟨g, k * 3, none⟩ vi).setCell ⟨g, k * 3 + 1, none⟩ vk).setCell ⟨g, k * 3 + 2, none⟩ vp) :=
    (((Below.refl C w).setCell (p := ⟨g, k * 3, none⟩) hg vi).setCell (p := ⟨g, k * 3 + 1, none⟩) hg vk).setCell (p := ⟨g, k * 3 + 2, none⟩) hg vp
  refine ⟨vals.set k ⟨vi, vk, vp⟩, by rw [List.length_set]; exact s3, by simp [h2], by simpa using h3, fun j hj => ?_⟩
  rw [List.length_set] at hj
  rw [v3At_set (by omega), lotAt_setL hk]
  by_cases e : j = k
  · rw [if_pos e, if_pos e]; exact hx.below hb (Nat.le_refl _)
  · rw [if_neg e, if_neg e]; exact (h4 j hj).below hb (Nat.le_refl _)

end Go.Proofs.Ythekefnocphcdaa

set_option linter.unusedVariables false

set_option linter.unusedSimpArgs false

namespace Go.Proofs.Ythekefnocphcdaa

open Go.RowKit

def knownTo (f : Flow) : Nat → Bool
  | 0 => true
  | k + 1 => knownTo f k && (lotAt f.lots k).known

theorem knownTo_false {f : Flow} {k m : Nat} (h : knownTo f k = false) (hk : k ≤ m) : knownTo f m = false := by
  induction hk with
  | refl => exact h
  | step _ ih => simp [knownTo, ih]

theorem knownTo_at {f : Flow} : ∀ {m : Nat}, knownTo f m = true → ∀ j, j < m → (lotAt f.lots j).known = true
  | m + 1, h, j, hj => by
    simp only [knownTo, Bool.and_eq_true] at h
    by_cases e : j = m
    · subst e; exact h.2
    · exact knownTo_at h.1 j (by omega)

set_option maxHeartbeats 2000000 in
set_option maxRecDepth 100000 in
/-- frankingref25.Known -/
theorem known25_any (B : Nat) (w : World) (vs vl : Value) (f : Flow) (hf : IsFlow B w vs vl f) (hB : B ≤ w.heap.size) :
    Calls Try.prog 41 #[.agg #[vs, vl]] w fun e w' => e = .returned (.bool (knownTo f f.lots.length)) ∧ Below w.heap.size w w' := by
  have HF := Lib.hid hf
  obtain ⟨rfl, ⟨hs1, hs2⟩, hl⟩ := hf
  obtain ⟨b, off, cap, ⟨a, rfl, hcap, hmax, ha⟩, hlen, hc⟩ := hl
  have HC := Lib.hid hc
  have HA := Lib.hid ha
  clear hc ha
  go_enter Try.func41, Try.ntmps41
  go_wp2
  have HX := Lib.hid (Box.new w #[.int .i64 f.senders, .slice a f.lots.length cap] 24)
  have HW : Hid (Below w.heap.size w (w.alloc (.cells #[.int .i64 f.senders, .slice a f.lots.length cap] 24))) := Lib.hid (box_below' w _)
  obtain ⟨w1, hw1⟩ : ∃ W, W = w.alloc (.cells #[.int .i64 f.senders, .slice a f.lots.length cap] 24) := ⟨_, rfl⟩
  rw [← hw1] at HX HW ⊢
  clear hw1
  obtain ⟨z1, r1⟩ := HX.out
  have k1 := r1 1
  simp at k1
  clear r1
  go_loop [3] (fun i => ∃ k : Nat, k ≤ f.lots.length ∧ i = .int .i64 k ∧ knownTo f k = true) (fun i => f.lots.length - (intOf i).toNat)
  case atStart => exact ⟨0, by omega, rfl, rfl⟩
  case round =>
    obtain ⟨k, hk, rfl, hno⟩ := hrel
    have HN := Lib.hid hno
    clear hno
    by_cases hlt : k < f.lots.length
    · obtain rfl : a = some ⟨b, off, none⟩ := by rcases HA.out with ha | ha; exact ha; omega
      obtain ⟨vi, vk, vp, q1, q2, q3, qi, rfl, qp⟩ := HC.out k hlt
      have c2 := (q2.below HW.out hB).2
      have HS : Hid (knownTo f (k + 1) = (knownTo f k && (lotAt f.lots k).known)) := Lib.hid rfl
      clear q1 q2 q3 qi qp
      cases hkn : (lotAt f.lots k).known
      · rw [hkn] at c2
        have HR : Hid (knownTo f f.lots.length = false) := Lib.hid (knownTo_false (k := k + 1) (by rw [HS.out, hkn]; simp) (by omega))
        clear hkn
        go_wp2
        go_ret
        exact ⟨by rw [HR.out]; rfl, HW.out⟩
      · rw [hkn] at c2
        have HR : Hid (knownTo f (k + 1) = true) := Lib.hid (by rw [HS.out, HN.out, hkn]; rfl)
        clear hkn
        go_wp2
        go_round
        case rel => exact ⟨k + 1, by omega, by go_num, HR.out⟩
        case measure => simp [intOf]; omega
    · obtain rfl : k = f.lots.length := by omega
      go_wp2
      go_ret
      exact ⟨by rw [HN.out]; rfl, HW.out⟩

end Go.Proofs.Ythekefnocphcdaa

set_option linter.unusedVariables false

set_option linter.unusedSimpArgs false

namespace Go.Proofs.Ythekefnocphcdaa

/-- the flow, its lot k replaced -/
def putK (f : Flow) (k : Nat) (x : Lot) : Flow := ⟨f.senders, f.lots.set k x⟩

theorem putK_len (f : Flow) (k : Nat) (x : Lot) : (putK f k x).lots.length = f.lots.length := by unfold putK; simp

theorem putK_at {f : Flow} {k : Nat} (x : Lot) (hk : k < f.lots.length) (j : Nat) : lotAt (putK f k x).lots j = if j = k then x else lotAt f.lots j := lotAt_setL hk x

theorem putK_ins {f : Flow} {k : Nat} {x : Lot} (hk : k < f.lots.length) (hx : x.ins = (lotAt f.lots k).ins) (j : Nat) : (lotAt (putK f k x).lots j).ins = (lotAt f.lots j).ins := by
  rw [putK_at x hk]
  split
  · rename_i e; rw [e, hx]
  · rfl

theorem putK_before {f : Flow} {k : Nat} {x : Lot} (hk : k < f.lots.length) (hx : x.ins = (lotAt f.lots k).ins) : ∀ j, beforeI (putK f k x) j = beforeI f j
  | 0 => rfl
  | j + 1 => by simp only [beforeI]; rw [putK_before hk hx j, putK_ins hk hx]

theorem putK_gone {f : Flow} {k : Nat} {x : Lot} (hk : k < f.lots.length) (hx : x.ins = (lotAt f.lots k).ins) (y : Int) : ∀ j, goneB (putK f k x) y j = goneB f y j
  | 0 => rfl
  | j + 1 => by simp only [goneB]; rw [putK_gone hk hx y j, putK_ins hk hx]

theorem putK_lotB {f : Flow} {k : Nat} {x : Lot} (hk : k < f.lots.length) (hx : x.ins = (lotAt f.lots k).ins) (hv : (if x.known then permB x.perm x.ins.length else decide (x.perm = [])) = true) {j : Nat} (h : lotB f j = true) : lotB (putK f k x) j = true := by
  unfold lotB at h ⊢
  simp only [putK_ins hk hx, putK_before hk hx, putK_gone hk hx]
  simp only [Bool.and_eq_true] at h ⊢
  refine ⟨h.1, ?_⟩
  rw [putK_at x hk]
  by_cases e : j = k
  · subst e; rw [if_pos rfl, ← hx]; exact hv
  · rw [if_neg e]; exact h.2

theorem putK_lotsB {f : Flow} {k : Nat} {x : Lot} (hk : k < f.lots.length) (hx : x.ins = (lotAt f.lots k).ins) (hv : (if x.known then permB x.perm x.ins.length else decide (x.perm = [])) = true) : ∀ j, lotsB f j = true → lotsB (putK f k x) j = true
  | 0, _ => rfl
  | j + 1, h => by
    simp only [lotsB, Bool.and_eq_true] at h ⊢
    exact ⟨putK_lotsB hk hx hv j h.1, putK_lotB hk hx hv h.2⟩

theorem putK_check {f : Flow} {k : Nat} {x : Lot} (hk : k < f.lots.length) (hx : x.ins = (lotAt f.lots k).ins) (hv : (if x.known then permB x.perm x.ins.length else decide (x.perm = [])) = true) (h : checkE f = 0) : checkE (putK f k x) = 0 := by
  obtain ⟨h0, h1, h2, h3, h4⟩ := checkE_ok h
  unfold checkE
  rw [putK_len, putK_before hk hx]
  have hs : (putK f k x).senders = f.senders := rfl
  rw [if_neg (by rw [hs]; omega), if_neg (by rw [hs]; omega), if_pos (putK_lotsB hk hx hv _ h4)]

/-- one unknown lot over known ones -/
theorem exact_put {f : Flow} (hc : checkE f = 0) (h6 : f.senders ≤ 6) {k : Nat} (hk : k < f.lots.length) (hkn : ∀ j, j < f.lots.length → (lotAt f.lots j).known = true) {g : Flow} (hg : g = putK f k ⟨(lotAt f.lots k).ins, false, []⟩) :
    checkE g = 0 ∧ upperE g = 0 ∧ upperR g = (facN (lotAt f.lots k).ins.length : Int) ∧ lowerE g = 0 ∧ lowerR g = (facN (lotAt f.lots k).ins.length : Int) ∧ lowerL g = [(k : Int)] ∧
      (allE g = 0 → countR g = (facN (lotAt f.lots k).ins.length : Int)) ∧ (lotAt f.lots k).ins.length ≤ 6 := by
  subst hg
  have hcg := putK_check (x := ⟨(lotAt f.lots k).ins, false, []⟩) hk rfl rfl hc
  have hins : (lotAt (putK f k ⟨(lotAt f.lots k).ins, false, []⟩).lots k).ins = (lotAt f.lots k).ins := putK_ins (x := ⟨(lotAt f.lots k).ins, false, []⟩) hk rfl k
  obtain ⟨e1, e2, e3, e4, e5, e6⟩ := exact_law (f := putK f k ⟨(lotAt f.lots k).ins, false, []⟩) hcg h6 (k := k) (by rw [putK_len]; exact hk) (fun j hj => by
    rw [putK_len] at hj
    rw [putK_at _ hk]
    constructor
    · intro h
      by_cases e : j = k
      · exact e
      · rw [if_neg e, hkn j hj] at h; cases h
    · rintro rfl; rw [if_pos rfl])
  rw [hins] at e2 e4 e6
  obtain ⟨h0, _, _, _, hl⟩ := checkE_ok hc
  have hil : (lotAt f.lots k).ins.length ≤ f.senders.toNat := ins_le h0 (by
    cases h : lotsB f (k + 1) with
    | true => rfl
    | false => rw [lotsB_false h (show k + 1 ≤ f.lots.length by omega)] at hl; cases hl)
  refine ⟨hcg, e1, e2, e3, e4, e5, fun ha => ?_, by omega⟩
  unfold countR allR
  rw [if_pos ha, e6]

end Go.Proofs.Ythekefnocphcdaa

set_option linter.unusedVariables false

set_option linter.unusedSimpArgs false

namespace Go.Proofs.Ythekefnocphcdaa

open Go.RowKit

theorem OwnLots.addr {C : Nat} {w : World} {v : Value} {ls : List Lot} (h : OwnLots C w v ls) (hne : 0 < ls.length) : ∃ g cap, v = .slice (some ⟨g, 0, none⟩) ls.length cap ∧ C ≤ g ∧ g < w.heap.size ∧ ls.length ≤ cap := by
  obtain ⟨vals, ⟨hl, h1⟩, h2, h3, h4⟩ := h
  rcases h1 with ⟨rfl, hn⟩ | ⟨g, cap, cur, rfl, hb, hg, hnc, _⟩
  · omega
  · exact ⟨g, cap, rfl, hb, (Array.getElem?_eq_some_iff.1 hg).1, hnc⟩

theorem OwnLots.cells3 {C : Nat} {w : World} {g n cap k : Nat} {ls : List Lot} (h : OwnLots C w (.slice (some ⟨g, 0, none⟩) n cap) ls) (hn : n = ls.length) (hk : k < ls.length) :
    ∃ vi vk vp, w.cell? ⟨g, k * 3, none⟩ = some vi ∧ w.cell? ⟨g, k * 3 + 1, none⟩ = some vk ∧ w.cell? ⟨g, k * 3 + 2, none⟩ = some vp ∧ IsLot C w vi vk vp (lotAt ls k) ∧ ∀ j, w.frozen? ⟨g, j, none⟩ = false := by
  subst hn
  obtain ⟨vals, h1, h2, h3, h4⟩ := h
  have hf := flat_get vals k (by omega)
  exact ⟨_, _, _, (h1.cellAt (k * 3) (by omega)).trans hf.1, (h1.cellAt (k * 3 + 1) (by omega)).trans hf.2.1, (h1.cellAt (k * 3 + 2) (by omega)).trans hf.2.2, h4 k hk, fun j => h1.frozenAt j⟩

theorem OwnLots.apart {C : Nat} {w : World} {g n cap p : Nat} {ls : List Lot} {s : Int} {u : Value} (h : OwnLots C w (.slice (some ⟨g, 0, none⟩) n cap) ls) (hn : n = ls.length) (hne : 0 < ls.length) (hp : CellsN w p #[.int .i64 s, u]) : p ≠ g := by
  rintro rfl
  obtain ⟨vi, vk, vp, c0, _, _, hi, _⟩ := h.cells3 hn hne
  have e := hp.cell 0
  rw [Nat.zero_mul] at c0
  rw [c0] at e
  obtain ⟨⟨_, _, _, ⟨a, e2, _⟩, _⟩, _⟩ := hi
  rw [e2] at e
  simp at e

end Go.Proofs.Ythekefnocphcdaa

set_option linter.unusedVariables false

set_option linter.unusedSimpArgs false

namespace Go.Proofs.Ythekefnocphcdaa

open Go.RowKit

set_option maxHeartbeats 8000000 in
set_option maxRecDepth 100000 in
/-- BoundsExact -/
theorem boundsExact_any (B : Nat) (w : World) (vs vl : Value) (f : Flow) (s : Int) (hf : IsFlow B w vs vl f) (hB : B ≤ w.heap.size) (hs : I64 s) :
    Calls Try.prog 12 #[.agg #[vs, vl], .int .i64 s] w fun e w' => e = .returned (.bool true) ∧ Below w.heap.size w w' := by
  have HF := Lib.hid hf
  obtain ⟨rfl, ⟨hs1, hs2⟩, hl⟩ := hf
  obtain ⟨b, off, cap, ⟨a, rfl, hcap, hmax, ha⟩, hlen, hc⟩ := hl
  have HC := Lib.hid hc
  have HA := Lib.hid ha
  clear hc ha
  go_enter Try.func12, Try.ntmps12
  go_wp2_with fail
  refine (sane28_any _).mono ?_
  rintro e w1 ⟨rfl, hb1⟩
  have HX1 := Lib.hid ((Box.new w #[.int .i64 f.senders, .slice a f.lots.length cap] 24).ext hb1)
  have HW1 : Hid (Below w.heap.size w w1) := Lib.hid ((box_below' w _).trans (hb1.mono (by simp)))
  obtain ⟨z1, r1⟩ := HX1.out
  clear hb1
  go_wp2_with fail
  refine (few28_any B w1 _ _ f (HF.out.below HW1.out hB) (Nat.le_trans hB HW1.out.size)).mono ?_
  rintro e w2 ⟨rfl, hb2⟩
  have HX2 := Lib.hid (HX1.out.ext hb2)
  have HW2 : Hid (Below w.heap.size w w2) := Lib.hid (HW1.out.trans (hb2.mono HW1.out.size))
  clear hb2 z1 r1
  cases hfew : few28 f
  · clear hfew
    go_wp2
    go_ret
    exact ⟨rfl, HW2.out⟩
  · have HFW := Lib.hid hfew
    clear hfew
    obtain ⟨z2, r2⟩ := HX2.out
    go_wp2_with fail
    refine (check25_any B w2 _ _ f (HF.out.below HW2.out hB) (Nat.le_trans hB HW2.out.size)).mono ?_
    rintro e w3 ⟨rfl, hb3⟩
    have HX3 := Lib.hid (HX2.out.ext hb3)
    have HW3 : Hid (Below w.heap.size w w3) := Lib.hid (HW2.out.trans (hb3.mono HW2.out.size))
    clear hb3 z2 r2
    by_cases hck : checkE f = 0
    · rw [hck]
      have HCK := Lib.hid hck
      clear hck
      obtain ⟨z3, r3⟩ := HX3.out
      go_wp2_with fail
      refine (known25_any B w3 _ _ f (HF.out.below HW3.out hB) (Nat.le_trans hB HW3.out.size)).mono ?_
      rintro e w4 ⟨rfl, hb4⟩
      have HX4 := Lib.hid (HX3.out.ext hb4)
      have HW4 : Hid (Below w.heap.size w w4) := Lib.hid (HW3.out.trans (hb4.mono HW3.out.size))
      clear hb4 z3 r3
      cases hkn : knownTo f f.lots.length
      · clear hkn
        obtain ⟨z4, r4⟩ := HX4.out
        go_wp2
        go_ret
        exact ⟨rfl, HW4.out⟩
      · have HKN := Lib.hid (knownTo_at hkn)
        clear hkn
        by_cases hl0 : f.lots.length = 0
        · have hl0' : ((f.lots.length : Int) == 0) = true := beq_iff_eq.2 (by omega)
          clear hl0
          obtain ⟨z4, r4⟩ := HX4.out
          go_wp2
          go_ret
          exact ⟨rfl, HW4.out⟩
        · have hl0' : ((f.lots.length : Int) == 0) = false := beq_eq_false_iff_ne.2 (by omega)
          obtain rfl : a = some ⟨b, off, none⟩ := by rcases HA.out with h | h; exact h; omega
          by_cases h6 : 6 < f.senders
          · have h6' : decide (6 < f.senders) = true := decide_eq_true h6
            obtain ⟨z4, r4⟩ := HX4.out
            clear h6
            go_wp2
            go_ret
            exact ⟨rfl, HW4.out⟩
          · have h6' : decide (6 < f.senders) = false := decide_eq_false h6
            have hl2 : f.lots.length ≤ 2000 := (checkE_ok HCK.out).2.2.1
            obtain ⟨u, hu, hu2⟩ : ∃ u : Nat, IntKind.u64.wrap s = (u : Int) ∧ u < 18446744073709551616 := by
              refine ⟨(IntKind.u64.wrap s).toNat, ?_, ?_⟩ <;> simp [IntKind.wrap, IntKind.bits, IntKind.signed] <;> omega
            have hm1 : ((u : Int).tmod (f.lots.length : Int)) = ((u % f.lots.length : Nat) : Int) := by rw [Int.ofNat_tmod]
            have hm2 : u % f.lots.length < f.lots.length := Nat.mod_lt _ (by omega)
            obtain ⟨k, hk⟩ : ∃ k, u % f.lots.length = k := ⟨_, rfl⟩
            rw [hk] at hm1 hm2
            clear hk
            obtain ⟨z4, r4⟩ := HX4.out
            go_upto_region 6 with fail
            have HSF : Hid (∀ W, Below w4.heap.size w4 W → SrcLots w4.heap.size W (.slice (some ⟨b, off, none⟩) f.lots.length cap) f.lots) := Lib.hid fun W hW => (HF.out.2.2.below (HW4.out.trans (hW.mono HW4.out.size)) hB).src (Nat.le_trans hB HW4.out.size)
            have HKP : Hid (∀ W, Below w4.heap.size w4 W → W.cell? ⟨w.heap.size, 0, none⟩ = some (.int .i64 f.senders) ∧ W.cell? ⟨w.heap.size, 1, none⟩ = some (.slice (some ⟨b, off, none⟩) f.lots.length cap)) := Lib.hid fun W hW => ⟨(HX4.out.below hW z4).2 0, (HX4.out.below hW z4).2 1⟩
            obtain ⟨vi, vk, vp, q1, _, _, ⟨_, _, ci, ⟨ai, rfl, _⟩, _⟩, _, _⟩ := id (HC.out k hm2)
            have hcl := HC.out k hm2
            have HIXs : Hid (IsInts B w (.slice ai (lotAt f.lots k).ins.length ci) (lotAt f.lots k).ins) := by
              obtain ⟨vi', _, _, q1', _, _, qi, _⟩ := hcl
              have := q1'.2.symm.trans q1.2
              simp at this
              rw [this] at qi
              exact Lib.hid qi
            have HLK : Hid (∀ W, Below w4.heap.size w4 W → W.cell? ⟨b, off + k * 3, none⟩ = some (.slice ai (lotAt f.lots k).ins.length ci)) := Lib.hid fun W hW => (q1.below (HW4.out.trans (hW.mono HW4.out.size)) hB).2
            have HIX : Hid (∀ W, Below w4.heap.size w4 W → IsLot w4.heap.size W (.slice ai (lotAt f.lots k).ins.length ci) (.bool false) (.slice none 0 0) ⟨(lotAt f.lots k).ins, false, []⟩) := Lib.hid fun W hW =>
              ⟨(HIXs.out.below (HW4.out.trans (hW.mono HW4.out.size)) hB).mono (Nat.le_trans hB HW4.out.size), rfl, noInts⟩
            have hklt := hm2
            clear r4 q1 hcl
            obtain ⟨V, hV⟩ : ∃ V : List (Option Value), V = [some (.pointer (some ⟨w.heap.size, 0, none⟩)), some (.int .i64 f.senders), none, some (.pointer (some ⟨w.heap.size, 1, none⟩)), some (.slice (some ⟨b, off, none⟩) f.lots.length cap), none, none, none, none] := ⟨_, rfl⟩
            have HVV := Lib.hid hV
            clear hV
            refine wp_region_V [some 50, some 51, some 52, some 53, some 54, some 55, some 56, some 6, none] (fun L w' xs => ValsAt V L xs ∧ (AC w4 f.lots (.int .i64 f.senders) L (xs 2) (xs 5) (xs 6) (xs 7) w')) (by kernel_rfl) (by kernel_rfl) (by rfl) (by rfl) (by rfl) ?_ ?_ ?_
            focus
              exact fun xs => ⟨ValsAt.none _ _, AC.start (below_drewN (Below.refl _ _) 1)⟩
            focus
              refine ⟨?_, ?_, ?_, ?_, ?_, ?_, ?_, ?_, ?_, trivial⟩
              all_goals
                intro L a' w' xs hi hd hf hJ K hK
                obtain ⟨hv, hA⟩ := hJ
                have HF := Lib.hid hf
                have HVA := Lib.hid hv
                have HLI := Lib.hid hi
                clear hf hv hi
              focus
                clear hd
                obtain ⟨ρ, hρ⟩ : ∃ ρ, a'.eval = ρ := ⟨_, rfl⟩
                have hcst : ∀ v, ρ (.const v) = v := fun v => (congrFun hρ (.const v)).symm
                have l2 : ρ (.tmp 2) = .pointer (some ⟨w.heap.size, 0, none⟩) := (congrFun hρ (.tmp 2)).symm.trans (HF.out.lo 2 rfl)
                rw [if_pos (by simp [Region.wanted])]
                unfold Oper.wp
                rw [hρ]
                clear hρ
                go_simp
                exact hK.out _ _ ⟨HVA.out.set (i := 0) (by rw [HVV.out]; rfl), (by simp only [updV_ne (xs := xs) (show (2 : Nat) ≠ 0 by decide), updV_ne (xs := xs) (show (5 : Nat) ≠ 0 by decide), updV_ne (xs := xs) (show (6 : Nat) ≠ 0 by decide), updV_ne (xs := xs) (show (7 : Nat) ≠ 0 by decide)]; exact hA.pass (by omega))⟩
              focus
                obtain ⟨d0, _⟩ := hd
                obtain ⟨ρ, hρ⟩ : ∃ ρ, a'.eval = ρ := ⟨_, rfl⟩
                have hcst : ∀ v, ρ (.const v) = v := fun v => (congrFun hρ (.const v)).symm
                have v0 : ρ (.tmp 50) = .pointer (some ⟨w.heap.size, 0, none⟩) := (congrFun hρ (.tmp 50)).symm.trans ((HF.out.ev 0 rfl d0).trans (HVA.out 0 _ (by rw [HVV.out]; rfl) d0))
                obtain ⟨k0, k1⟩ := HKP.out _ hA.hb
                rw [if_pos (by simp [Region.wanted])]
                unfold Oper.wp
                rw [hρ]
                clear hρ
                go_simp
                exact hK.out _ _ ⟨HVA.out.set (i := 1) (by rw [HVV.out]; rfl), (by simp only [updV_ne (xs := xs) (show (2 : Nat) ≠ 1 by decide), updV_ne (xs := xs) (show (5 : Nat) ≠ 1 by decide), updV_ne (xs := xs) (show (6 : Nat) ≠ 1 by decide), updV_ne (xs := xs) (show (7 : Nat) ≠ 1 by decide)]; exact hA.pass (by omega))⟩
              focus
                clear hd
                obtain ⟨ρ, hρ⟩ : ∃ ρ, a'.eval = ρ := ⟨_, rfl⟩
                have hcst : ∀ v, ρ (.const v) = v := fun v => (congrFun hρ (.const v)).symm
                rw [if_pos (by simp [Region.wanted])]
                unfold Oper.wp
                rw [hρ]
                clear hρ
                go_simp
                exact hK.out _ _ ⟨HVA.out.free (i := 2) (by rw [HVV.out]; rfl) _, (by simp only [updV_ne (xs := xs) (show (5 : Nat) ≠ 2 by decide), updV_ne (xs := xs) (show (6 : Nat) ≠ 2 by decide), updV_ne (xs := xs) (show (7 : Nat) ≠ 2 by decide), updV_self]; exact hA.s2 HLI.out)⟩
              focus
                clear hd
                obtain ⟨ρ, hρ⟩ : ∃ ρ, a'.eval = ρ := ⟨_, rfl⟩
                have hcst : ∀ v, ρ (.const v) = v := fun v => (congrFun hρ (.const v)).symm
                have l2 : ρ (.tmp 2) = .pointer (some ⟨w.heap.size, 0, none⟩) := (congrFun hρ (.tmp 2)).symm.trans (HF.out.lo 2 rfl)
                rw [if_pos (by simp [Region.wanted])]
                unfold Oper.wp
                rw [hρ]
                clear hρ
                go_simp
                exact hK.out _ _ ⟨HVA.out.set (i := 3) (by rw [HVV.out]; rfl), (by simp only [updV_ne (xs := xs) (show (2 : Nat) ≠ 3 by decide), updV_ne (xs := xs) (show (5 : Nat) ≠ 3 by decide), updV_ne (xs := xs) (show (6 : Nat) ≠ 3 by decide), updV_ne (xs := xs) (show (7 : Nat) ≠ 3 by decide)]; exact hA.pass (by omega))⟩
              focus
                obtain ⟨d3, _⟩ := hd
                obtain ⟨ρ, hρ⟩ : ∃ ρ, a'.eval = ρ := ⟨_, rfl⟩
                have hcst : ∀ v, ρ (.const v) = v := fun v => (congrFun hρ (.const v)).symm
                have v3 : ρ (.tmp 53) = .pointer (some ⟨w.heap.size, 1, none⟩) := (congrFun hρ (.tmp 53)).symm.trans ((HF.out.ev 3 rfl d3).trans (HVA.out 3 _ (by rw [HVV.out]; rfl) d3))
                obtain ⟨k0, k1⟩ := HKP.out _ hA.hb
                rw [if_pos (by simp [Region.wanted])]
                unfold Oper.wp
                rw [hρ]
                clear hρ
                go_simp
                exact hK.out _ _ ⟨HVA.out.set (i := 4) (by rw [HVV.out]; rfl), (by simp only [updV_ne (xs := xs) (show (2 : Nat) ≠ 4 by decide), updV_ne (xs := xs) (show (5 : Nat) ≠ 4 by decide), updV_ne (xs := xs) (show (6 : Nat) ≠ 4 by decide), updV_ne (xs := xs) (show (7 : Nat) ≠ 4 by decide)]; exact hA.pass (by omega))⟩
              focus
                obtain ⟨d2, d4, _⟩ := hd
                have v2 : a'.eval (.tmp 52) = xs 2 := HF.out.ev 2 rfl d2
                have v4 : a'.eval (.tmp 54) = .slice (some ⟨b, off, none⟩) f.lots.length cap := (HF.out.ev 4 rfl d4).trans (HVA.out 4 _ (by rw [HVV.out]; rfl) d4)
                rw [if_pos (by simp [Region.wanted])]
                obtain ⟨v5, w5, q1, q2, q3, q4⟩ := run_append_lots (ty := 22) (hA.h2 d2 HLI.out) (HSF.out _ hA.hb) (by simp; omega) hA.hb.size
                refine wp_of_append w' rfl v2 v4 q1 ?_
                exact hK.out _ _ ⟨HVA.out.free (i := 5) (by rw [HVV.out]; rfl) _, (by simp only [updV_ne (xs := xs) (show (2 : Nat) ≠ 5 by decide), updV_ne (xs := xs) (show (6 : Nat) ≠ 5 by decide), updV_ne (xs := xs) (show (7 : Nat) ≠ 5 by decide), updV_self]; exact hA.s5 HLI.out d2 (by simpa using q2) q3 q4)⟩
              focus
                obtain ⟨d1, d5, _⟩ := hd
                obtain ⟨ρ, hρ⟩ : ∃ ρ, a'.eval = ρ := ⟨_, rfl⟩
                have hcst : ∀ v, ρ (.const v) = v := fun v => (congrFun hρ (.const v)).symm
                have v1 : ρ (.tmp 51) = .int .i64 f.senders := (congrFun hρ (.tmp 51)).symm.trans ((HF.out.ev 1 rfl d1).trans (HVA.out 1 _ (by rw [HVV.out]; rfl) d1))
                have v5 : ρ (.tmp 55) = xs 5 := (congrFun hρ (.tmp 55)).symm.trans (HF.out.ev 5 rfl d5)
                rw [if_pos (by simp [Region.wanted])]
                unfold Oper.wp
                rw [hρ]
                clear hρ
                obtain ⟨a6, c6, e6⟩ := (hA.h5 d5).form
                rw [e6] at v5
                have HE6 := Lib.hid e6
                clear e6
                go_simp
                exact hK.out _ _ ⟨HVA.out.free (i := 6) (by rw [HVV.out]; rfl) _, (by simp only [updV_ne (xs := xs) (show (2 : Nat) ≠ 6 by decide), updV_ne (xs := xs) (show (5 : Nat) ≠ 6 by decide), updV_ne (xs := xs) (show (7 : Nat) ≠ 6 by decide), updV_self]; rw [← HE6.out]; exact hA.s6 HLI.out d5)⟩
              focus
                clear hd
                obtain ⟨ρ, hρ⟩ : ∃ ρ, a'.eval = ρ := ⟨_, rfl⟩
                have hcst : ∀ v, ρ (.const v) = v := fun v => (congrFun hρ (.const v)).symm
                rw [if_pos (by simp [Region.wanted])]
                unfold Oper.wp
                rw [hρ]
                clear hρ
                go_simp
                exact hK.out _ _ ⟨HVA.out.free (i := 7) (by rw [HVV.out]; rfl) _, (by simp only [updV_ne (xs := xs) (show (2 : Nat) ≠ 7 by decide), updV_ne (xs := xs) (show (5 : Nat) ≠ 7 by decide), updV_ne (xs := xs) (show (6 : Nat) ≠ 7 by decide), updV_self]; exact hA.s7 HLI.out _)⟩
              focus
                obtain ⟨d7, d6, d5, d0, d1, d2, d3, d4, _, _, _, _⟩ := hd
                obtain ⟨ρ, hρ⟩ : ∃ ρ, a'.eval = ρ := ⟨_, rfl⟩
                have hcst : ∀ v, ρ (.const v) = v := fun v => (congrFun hρ (.const v)).symm
                have v7 : ρ (.tmp 6) = xs 7 := (congrFun hρ (.tmp 6)).symm.trans (HF.out.ev 7 rfl d7)
                have v6 : ρ (.tmp 56) = xs 6 := (congrFun hρ (.tmp 56)).symm.trans (HF.out.ev 6 rfl d6)
                rw [if_pos (by simp [Region.wanted])]
                unfold Oper.wp
                rw [hρ]
                clear hρ
                obtain ⟨a6, c6, e6⟩ := (hA.h5 (hA.c6 d6)).form
                obtain ⟨p, e7, p1, p2, p3, p4⟩ := hA.h7 d7 HLI.out
                rw [e7] at v7
                rw [hA.h6 d6, e6] at v6
                have HE6 := Lib.hid e6
                have HE7 := Lib.hid e7
                have m0 := p2.cell 0
                have m1 := p2.cell 1
                have g0 := p2.free 0
                have g1 := p2.free 1
                simp at m0 m1
                clear e6 e7 p1 p2 p3 p4
                go_simp
                exact hK.out undef _ ⟨HVA.out.free (i := 8) (by rw [HVV.out]; rfl) _, (by simp only [updV_ne (xs := xs) (show (2 : Nat) ≠ 8 by decide), updV_ne (xs := xs) (show (5 : Nat) ≠ 8 by decide), updV_ne (xs := xs) (show (6 : Nat) ≠ 8 by decide), updV_ne (xs := xs) (show (7 : Nat) ≠ 8 by decide)]; exact hA.s8 HLI.out d7 d6 (hA.c6 d6) d2 HE7.out HE6.out)⟩
            focus
              intro L w' xs hL hJ
              obtain ⟨hv, hA⟩ := hJ
              have e0 : xs 0 = .pointer (some ⟨w.heap.size, 0, none⟩) := hv 0 _ (by rw [HVV.out]; rfl) (hL 0 (by decide))
              have e1 : xs 1 = .int .i64 f.senders := hv 1 _ (by rw [HVV.out]; rfl) (hL 1 (by decide))
              have e3 : xs 3 = .pointer (some ⟨w.heap.size, 1, none⟩) := hv 3 _ (by rw [HVV.out]; rfl) (hL 3 (by decide))
              have e4 : xs 4 = .slice (some ⟨b, off, none⟩) f.lots.length cap := hv 4 _ (by rw [HVV.out]; rfl) (hL 4 (by decide))
              simp only [putGo, Act.put, List.setIfInBounds_toArray, List.set_cons_zero, List.set_cons_succ, e0, e1, e3, e4]
              clear hv e0 e1 e3 e4
              obtain ⟨p, n5, c5, a5, e7, hp1, hp2, ho5, hb5⟩ := hA.h8 (hL 8 (by decide))
              simp only [e7]
              clear e7 hL hA
              obtain ⟨W5, hW5⟩ : ∃ W, W = w' := ⟨_, rfl⟩
              rw [← hW5] at hp2 ho5 hb5 ⊢
              clear hW5
              obtain ⟨g, c5', e5, hg1, hg2, hg3⟩ := ho5.addr (by omega)
              obtain ⟨rfl, rfl, rfl⟩ : a5 = some ⟨g, 0, none⟩ ∧ n5 = f.lots.length ∧ c5 = c5' := by simpa using e5
              have HO5 := Lib.hid ho5
              have HP5 := Lib.hid hp2
              have HB5 := Lib.hid hb5
              have HGB := Lib.hid hg1
              clear ho5 hb5 e5 hp2
              go_upto_region 7 with fail
              obtain ⟨V, hV⟩ : ∃ V : List (Option Value), V = [some (.pointer (some ⟨p, 1, none⟩)), some (.slice (some ⟨g, 0, none⟩) f.lots.length c5), some (.int .i64 (k : Int)), some (.pointer (some ⟨w.heap.size, 1, none⟩)), some (.slice (some ⟨b, off, none⟩) f.lots.length cap), some (.int .i64 (k : Int)), some (.pointer (some ⟨b, off + k * 3, none⟩)), some (.pointer (some ⟨b, off + k * 3, none⟩)), some (.slice ai (lotAt f.lots k).ins.length ci), some (.agg #[.slice ai (lotAt f.lots k).ins.length ci, .bool false, .slice none 0 0]), some (.pointer (some ⟨g, k * 3, none⟩)), none] := ⟨_, rfl⟩
              have HVV := Lib.hid hV
              clear hV
              refine wp_region_V [some 57, some 58, some 59, some 60, some 61, some 62, some 63, some 64, some 65, some 66, some 67, none] (fun L w' xs => ValsAt V L xs ∧ (Below w4.heap.size w4 w' ∧ CellsN w' p #[.int .i64 f.senders, .slice (some ⟨g, 0, none⟩) f.lots.length c5] ∧ (L 11 = false → OwnLots w4.heap.size w' (.slice (some ⟨g, 0, none⟩) f.lots.length c5) f.lots) ∧ (L 11 = true → OwnLots w4.heap.size w' (.slice (some ⟨g, 0, none⟩) f.lots.length c5) (f.lots.set k ⟨(lotAt f.lots k).ins, false, []⟩)))) (by kernel_rfl) (by kernel_rfl) (by rfl) (by rfl) (by rfl) ?_ ?_ ?_
              focus
                exact fun xs => ⟨ValsAt.none _ _, below_drewN HB5.out 1, HP5.out, (fun _ => HO5.out), (fun h => by cases h)⟩
              focus
                refine ⟨?_, ?_, ?_, ?_, ?_, ?_, ?_, ?_, ?_, ?_, ?_, ?_, trivial⟩
                all_goals
                  intro L a' w' xs hi hd hf hJ K hK
                  obtain ⟨hv, hb, hp, ho, hs⟩ := hJ
                  have HF := Lib.hid hf
                  have HVA := Lib.hid hv
                  have HLI := Lib.hid hi
                  clear hf hv hi
                focus
                  clear hd
                  obtain ⟨ρ, hρ⟩ : ∃ ρ, a'.eval = ρ := ⟨_, rfl⟩
                  have hcst : ∀ v, ρ (.const v) = v := fun v => (congrFun hρ (.const v)).symm
                  have l6 : ρ (.tmp 6) = .pointer (some ⟨p, 0, none⟩) := (congrFun hρ (.tmp 6)).symm.trans (HF.out.lo 6 rfl)
                  rw [if_pos (by simp [Region.wanted])]
                  unfold Oper.wp
                  rw [hρ]
                  clear hρ
                  go_simp
                  exact hK.out _ _ ⟨HVA.out.set (i := 0) (by rw [HVV.out]; rfl), hb, hp, ho, hs⟩
                focus
                  obtain ⟨d0, _⟩ := hd
                  obtain ⟨ρ, hρ⟩ : ∃ ρ, a'.eval = ρ := ⟨_, rfl⟩
                  have hcst : ∀ v, ρ (.const v) = v := fun v => (congrFun hρ (.const v)).symm
                  have v0 : ρ (.tmp 57) = .pointer (some ⟨p, 1, none⟩) := (congrFun hρ (.tmp 57)).symm.trans ((HF.out.ev 0 rfl d0).trans (HVA.out 0 _ (by rw [HVV.out]; rfl) d0))
                  have m1 := hp.cell 1
                  simp at m1
                  rw [if_pos (by simp [Region.wanted])]
                  unfold Oper.wp
                  rw [hρ]
                  clear hρ
                  go_simp
                  exact hK.out _ _ ⟨HVA.out.set (i := 1) (by rw [HVV.out]; rfl), hb, hp, ho, hs⟩
                focus
                  clear hd
                  obtain ⟨ρ, hρ⟩ : ∃ ρ, a'.eval = ρ := ⟨_, rfl⟩
                  have hcst : ∀ v, ρ (.const v) = v := fun v => (congrFun hρ (.const v)).symm
                  have l5 : ρ (.tmp 5) = .int .i64 (k : Int) := (congrFun hρ (.tmp 5)).symm.trans (HF.out.lo 5 rfl)
                  rw [if_pos (by simp [Region.wanted])]
                  unfold Oper.wp
                  rw [hρ]
                  clear hρ
                  go_simp
                  exact hK.out _ _ ⟨HVA.out.set (i := 2) (by rw [HVV.out]; rfl), hb, hp, ho, hs⟩
                focus
                  clear hd
                  obtain ⟨ρ, hρ⟩ : ∃ ρ, a'.eval = ρ := ⟨_, rfl⟩
                  have hcst : ∀ v, ρ (.const v) = v := fun v => (congrFun hρ (.const v)).symm
                  have l2 : ρ (.tmp 2) = .pointer (some ⟨w.heap.size, 0, none⟩) := (congrFun hρ (.tmp 2)).symm.trans (HF.out.lo 2 rfl)
                  rw [if_pos (by simp [Region.wanted])]
                  unfold Oper.wp
                  rw [hρ]
                  clear hρ
                  go_simp
                  exact hK.out _ _ ⟨HVA.out.set (i := 3) (by rw [HVV.out]; rfl), hb, hp, ho, hs⟩
                focus
                  obtain ⟨d3, _⟩ := hd
                  obtain ⟨ρ, hρ⟩ : ∃ ρ, a'.eval = ρ := ⟨_, rfl⟩
                  have hcst : ∀ v, ρ (.const v) = v := fun v => (congrFun hρ (.const v)).symm
                  have v3 : ρ (.tmp 60) = .pointer (some ⟨w.heap.size, 1, none⟩) := (congrFun hρ (.tmp 60)).symm.trans ((HF.out.ev 3 rfl d3).trans (HVA.out 3 _ (by rw [HVV.out]; rfl) d3))
                  obtain ⟨k0, k1⟩ := HKP.out _ hb
                  rw [if_pos (by simp [Region.wanted])]
                  unfold Oper.wp
                  rw [hρ]
                  clear hρ
                  go_simp
                  exact hK.out _ _ ⟨HVA.out.set (i := 4) (by rw [HVV.out]; rfl), hb, hp, ho, hs⟩
                focus
                  clear hd
                  obtain ⟨ρ, hρ⟩ : ∃ ρ, a'.eval = ρ := ⟨_, rfl⟩
                  have hcst : ∀ v, ρ (.const v) = v := fun v => (congrFun hρ (.const v)).symm
                  have l5 : ρ (.tmp 5) = .int .i64 (k : Int) := (congrFun hρ (.tmp 5)).symm.trans (HF.out.lo 5 rfl)
                  rw [if_pos (by simp [Region.wanted])]
                  unfold Oper.wp
                  rw [hρ]
                  clear hρ
                  go_simp
                  exact hK.out _ _ ⟨HVA.out.set (i := 5) (by rw [HVV.out]; rfl), hb, hp, ho, hs⟩
                focus
                  obtain ⟨d4, d5, _⟩ := hd
                  obtain ⟨ρ, hρ⟩ : ∃ ρ, a'.eval = ρ := ⟨_, rfl⟩
                  have hcst : ∀ v, ρ (.const v) = v := fun v => (congrFun hρ (.const v)).symm
                  have v4 : ρ (.tmp 61) = .slice (some ⟨b, off, none⟩) f.lots.length cap := (congrFun hρ (.tmp 61)).symm.trans ((HF.out.ev 4 rfl d4).trans (HVA.out 4 _ (by rw [HVV.out]; rfl) d4))
                  have v5 : ρ (.tmp 62) = .int .i64 (k : Int) := (congrFun hρ (.tmp 62)).symm.trans ((HF.out.ev 5 rfl d5).trans (HVA.out 5 _ (by rw [HVV.out]; rfl) d5))
                  rw [if_pos (by simp [Region.wanted])]
                  unfold Oper.wp
                  rw [hρ]
                  clear hρ
                  go_simp
                  exact hK.out _ _ ⟨HVA.out.set (i := 6) (by rw [HVV.out]; rfl), hb, hp, ho, hs⟩
                focus
                  obtain ⟨d6, _⟩ := hd
                  obtain ⟨ρ, hρ⟩ : ∃ ρ, a'.eval = ρ := ⟨_, rfl⟩
                  have hcst : ∀ v, ρ (.const v) = v := fun v => (congrFun hρ (.const v)).symm
                  have v6 : ρ (.tmp 63) = .pointer (some ⟨b, off + k * 3, none⟩) := (congrFun hρ (.tmp 63)).symm.trans ((HF.out.ev 6 rfl d6).trans (HVA.out 6 _ (by rw [HVV.out]; rfl) d6))
                  rw [if_pos (by simp [Region.wanted])]
                  unfold Oper.wp
                  rw [hρ]
                  clear hρ
                  go_simp
                  exact hK.out _ _ ⟨HVA.out.set (i := 7) (by rw [HVV.out]; rfl), hb, hp, ho, hs⟩
                focus
                  obtain ⟨d7, _⟩ := hd
                  obtain ⟨ρ, hρ⟩ : ∃ ρ, a'.eval = ρ := ⟨_, rfl⟩
                  have hcst : ∀ v, ρ (.const v) = v := fun v => (congrFun hρ (.const v)).symm
                  have v7 : ρ (.tmp 64) = .pointer (some ⟨b, off + k * 3, none⟩) := (congrFun hρ (.tmp 64)).symm.trans ((HF.out.ev 7 rfl d7).trans (HVA.out 7 _ (by rw [HVV.out]; rfl) d7))
                  have k2 := HLK.out _ hb
                  rw [if_pos (by simp [Region.wanted])]
                  unfold Oper.wp
                  rw [hρ]
                  clear hρ
                  go_simp
                  exact hK.out _ _ ⟨HVA.out.set (i := 8) (by rw [HVV.out]; rfl), hb, hp, ho, hs⟩
                focus
                  obtain ⟨d8, _⟩ := hd
                  obtain ⟨ρ, hρ⟩ : ∃ ρ, a'.eval = ρ := ⟨_, rfl⟩
                  have hcst : ∀ v, ρ (.const v) = v := fun v => (congrFun hρ (.const v)).symm
                  have v8 : ρ (.tmp 65) = .slice ai (lotAt f.lots k).ins.length ci := (congrFun hρ (.tmp 65)).symm.trans ((HF.out.ev 8 rfl d8).trans (HVA.out 8 _ (by rw [HVV.out]; rfl) d8))
                  rw [if_pos (by simp [Region.wanted])]
                  unfold Oper.wp
                  rw [hρ]
                  clear hρ
                  go_simp
                  exact hK.out _ _ ⟨HVA.out.set (i := 9) (by rw [HVV.out]; rfl), hb, hp, ho, hs⟩
                focus
                  obtain ⟨d1, d2, d0, _, _, d3, d4, d5, d6, d7, d8, d9, _⟩ := hd
                  obtain ⟨ρ, hρ⟩ : ∃ ρ, a'.eval = ρ := ⟨_, rfl⟩
                  have hcst : ∀ v, ρ (.const v) = v := fun v => (congrFun hρ (.const v)).symm
                  have v1 : ρ (.tmp 58) = .slice (some ⟨g, 0, none⟩) f.lots.length c5 := (congrFun hρ (.tmp 58)).symm.trans ((HF.out.ev 1 rfl d1).trans (HVA.out 1 _ (by rw [HVV.out]; rfl) d1))
                  have v2 : ρ (.tmp 59) = .int .i64 (k : Int) := (congrFun hρ (.tmp 59)).symm.trans ((HF.out.ev 2 rfl d2).trans (HVA.out 2 _ (by rw [HVV.out]; rfl) d2))
                  rw [if_pos (by simp [Region.wanted])]
                  unfold Oper.wp
                  rw [hρ]
                  clear hρ
                  go_simp
                  exact hK.out _ _ ⟨HVA.out.set (i := 10) (by rw [HVV.out]; rfl), hb, hp, ho, hs⟩
                focus
                  obtain ⟨d10, d9, d0, d1, d2, d3, d4, d5, d6, d7, d8, _, _⟩ := hd
                  obtain ⟨ρ, hρ⟩ : ∃ ρ, a'.eval = ρ := ⟨_, rfl⟩
                  have hcst : ∀ v, ρ (.const v) = v := fun v => (congrFun hρ (.const v)).symm
                  have v10 : ρ (.tmp 67) = .pointer (some ⟨g, k * 3, none⟩) := (congrFun hρ (.tmp 67)).symm.trans ((HF.out.ev 10 rfl d10).trans (HVA.out 10 _ (by rw [HVV.out]; rfl) d10))
                  have v9 : ρ (.tmp 66) = .agg #[.slice ai (lotAt f.lots k).ins.length ci, .bool false, .slice none 0 0] := (congrFun hρ (.tmp 66)).symm.trans ((HF.out.ev 9 rfl d9).trans (HVA.out 9 _ (by rw [HVV.out]; rfl) d9))
                  rw [if_pos (by simp [Region.wanted])]
                  unfold Oper.wp
                  rw [hρ]
                  clear hρ
                  have ho' := ho HLI.out
                  obtain ⟨ui, uk, up, m0, m1, m2, _, hfr⟩ := ho'.cells3 rfl hklt
                  have g0 := hfr (k * 3)
                  have g1 := hfr (k * 3 + 1)
                  have g2 := hfr (k * 3 + 2)
                  have HN := Lib.hid (ho'.apart rfl (by omega) hp)
                  have HST := Lib.hid (ho'.store (k := k) (x := ⟨(lotAt f.lots k).ins, false, []⟩) (vi := (.slice ai (lotAt f.lots k).ins.length ci)) (vk := (.bool false)) (vp := (.slice none 0 0)) rfl hklt (HIX.out _ hb))
                  have HBB := Lib.hid hb
                  have HPP := Lib.hid hp
                  clear ho hs hp hb ho' hfr
                  go_simp
                  exact hK.out undef _ ⟨HVA.out.free (i := 11) (by rw [HVV.out]; rfl) _, ((HBB.out.setCell (p := ⟨g, k * 3, none⟩) HGB.out _).setCell (p := ⟨g, k * 3 + 1, none⟩) HGB.out _).setCell (p := ⟨g, k * 3 + 2, none⟩) HGB.out _,
                    ((HPP.out.grown (grown_setCell _ ⟨g, k * 3, none⟩ _) (fun e => HN.out (by simpa using e))).grown (grown_setCell _ ⟨g, k * 3 + 1, none⟩ _) (fun e => HN.out (by simpa using e))).grown (grown_setCell _ ⟨g, k * 3 + 2, none⟩ _) (fun e => HN.out (by simpa using e)),
                    (fun h => by cases h), (fun _ => HST.out)⟩
              focus
                intro L w' xs hL hJ
                obtain ⟨hv, hb, hp, ho, hs⟩ := hJ
                have e0 : xs 0 = .pointer (some ⟨p, 1, none⟩) := hv 0 _ (by rw [HVV.out]; rfl) (hL 0 (by decide))
                have e1 : xs 1 = .slice (some ⟨g, 0, none⟩) f.lots.length c5 := hv 1 _ (by rw [HVV.out]; rfl) (hL 1 (by decide))
                have e2 : xs 2 = .int .i64 (k : Int) := hv 2 _ (by rw [HVV.out]; rfl) (hL 2 (by decide))
                have e3 : xs 3 = .pointer (some ⟨w.heap.size, 1, none⟩) := hv 3 _ (by rw [HVV.out]; rfl) (hL 3 (by decide))
                have e4 : xs 4 = .slice (some ⟨b, off, none⟩) f.lots.length cap := hv 4 _ (by rw [HVV.out]; rfl) (hL 4 (by decide))
                have e5 : xs 5 = .int .i64 (k : Int) := hv 5 _ (by rw [HVV.out]; rfl) (hL 5 (by decide))
                have e6 : xs 6 = .pointer (some ⟨b, off + k * 3, none⟩) := hv 6 _ (by rw [HVV.out]; rfl) (hL 6 (by decide))
                have e7 : xs 7 = .pointer (some ⟨b, off + k * 3, none⟩) := hv 7 _ (by rw [HVV.out]; rfl) (hL 7 (by decide))
                have e8 : xs 8 = .slice ai (lotAt f.lots k).ins.length ci := hv 8 _ (by rw [HVV.out]; rfl) (hL 8 (by decide))
                have e9 : xs 9 = .agg #[.slice ai (lotAt f.lots k).ins.length ci, .bool false, .slice none 0 0] := hv 9 _ (by rw [HVV.out]; rfl) (hL 9 (by decide))
                have e10 : xs 10 = .pointer (some ⟨g, k * 3, none⟩) := hv 10 _ (by rw [HVV.out]; rfl) (hL 10 (by decide))
                simp only [putGo, Act.put, List.setIfInBounds_toArray, List.set_cons_zero, List.set_cons_succ, e0, e1, e2, e3, e4, e5, e6, e7, e8, e9, e10]
                clear hv e0 e1 e2 e3 e4 e5 e6 e7 e8 e9 e10
                have hO := hs (hL 11 (by decide))
                clear ho hs hL
                obtain ⟨W6, hW6⟩ : ∃ W, W = w' := ⟨_, rfl⟩
                rw [← hW6] at hb hp hO ⊢
                clear hW6
                obtain ⟨G, hG⟩ : ∃ G, G = putK f k ⟨(lotAt f.lots k).ins, false, []⟩ := ⟨_, rfl⟩
                obtain ⟨x1, x2, x3, x4, x5, x6, x7, x8⟩ := exact_put HCK.out (by omega) hklt HKN.out hG
                have HGF : Hid (IsFlow W6.heap.size W6 (.int .i64 f.senders) (.slice (some ⟨g, 0, none⟩) f.lots.length c5) G) := Lib.hid (by rw [hG]; exact ⟨rfl, ⟨hs1, hs2⟩, hO.isLots hb.size⟩)
                have HG6 : Hid (G.senders ≤ 6) := Lib.hid (by rw [hG]; show f.senders ≤ 6; omega)
                have HEC := Lib.hid (allE_cases x1)
                obtain ⟨N, hN⟩ : ∃ N, (lotAt f.lots k).ins.length = N := ⟨_, rfl⟩
                have HU := Lib.hid x2
                have HUR := Lib.hid x3
                have HL := Lib.hid x4
                have HLR := Lib.hid x5
                have HLL := Lib.hid x6
                have HCR := Lib.hid x7
                have HFC : Hid (∀ j, j ≤ 6 → facN j ≤ 720) := Lib.hid (by
                  intro j hj
                  rcases (by omega : j = 0 ∨ j = 1 ∨ j = 2 ∨ j = 3 ∨ j = 4 ∨ j = 5 ∨ j = 6) with rfl | rfl | rfl | rfl | rfl | rfl | rfl <;> decide)
                rw [hN] at HUR HLR HCR x8
                obtain ⟨k0, k1⟩ := HKP.out _ hb
                have k2 := HLK.out _ hb
                rw [hN] at k2
                have m0 := hp.cell 0
                have m1 := hp.cell 1
                simp at m0 m1
                have HW6 : Hid (Below w.heap.size w W6) := Lib.hid (HW4.out.trans (hb.mono HW4.out.size))
                have HP6 : Hid (Box W6 p #[.int .i64 f.senders, .slice (some ⟨g, 0, none⟩) f.lots.length c5]) := Lib.hid hp.box
                have hpl := hp.lt
                clear x1 x2 x3 x4 x5 x6 x7 hG hO hb hp hN
                go_wp2
                go_loop [7, 75] (fun v i => ∃ j : Nat, j ≤ N ∧ v = .int .i64 (facN j) ∧ i = .int .i64 j) (fun _ i => N - (intOf i).toNat)
                case atStart => exact ⟨0, by omega, rfl, rfl⟩
                case round =>
                  obtain ⟨j, hj, rfl, rfl⟩ := hrel
                  by_cases hjl : j < N
                  · have hmul : ((facN j : Int) * ((j : Int) + 1)) = ((facN (j + 1) : Nat) : Int) := by
                      show _ = (((j + 1) * facN j : Nat) : Int)
                      push_cast
                      rw [Int.mul_comm]
                    have hb2 := HFC.out (j + 1) (by omega)
                    have hb3 := HFC.out j (by omega)
                    go_wp2
                    go_round
                    case rel => exact ⟨j + 1, by omega, rfl, by go_num⟩
                    case measure => simp [intOf]; omega
                  · obtain rfl : j = N := by omega
                    obtain ⟨F, hF⟩ : ∃ F, facN j = F := ⟨_, rfl⟩
                    rw [hF] at HUR HLR HCR ⊢
                    clear hF
                    go_wp2_with fail
                    refine (bupper_any W6.heap.size W6 _ _ G HGF.out (Nat.le_refl _) (.inl HG6.out)).mono ?_
                    rintro e w7 ⟨rfl, hb7⟩
                    have HB7 := Lib.hid hb7
                    have HP7 := Lib.hid (HP6.out.below hb7 hpl)
                    rw [HU.out, HUR.out]
                    clear hb7 m0 m1 k0 k1 k2
                    have m0 := HP7.out.2 0
                    have m1 := HP7.out.2 1
                    simp at m0 m1
                    go_wp2_with fail
                    refine (blower_any W6.heap.size w7 _ _ G (HGF.out.below HB7.out (Nat.le_refl _)) HB7.out.size).mono ?_
                    rintro e w8 ⟨v8, rfl, ho8, hb8⟩
                    have HB8 : Hid (Below W6.heap.size W6 w8) := Lib.hid (HB7.out.trans (hb8.mono HB7.out.size))
                    rw [HLL.out] at ho8
                    have HI8 := Lib.hid ho8.isInts
                    obtain ⟨a8, c8, rfl, _⟩ := ho8.form
                    rw [HL.out, HLR.out]
                    have HP8 := Lib.hid (HP6.out.below HB8.out hpl)
                    clear hb8 ho8 m0 m1
                    have m0 := HP8.out.2 0
                    have m1 := HP8.out.2 1
                    simp at m0 m1
                    go_wp2_with fail
                    refine (ccount_any W6.heap.size w8 _ _ G (HGF.out.below HB8.out (Nat.le_refl _)) HB8.out.size).mono ?_
                    rintro e w9 ⟨rfl, hb9⟩
                    have HB9 : Hid (Below W6.heap.size W6 w9) := Lib.hid (HB8.out.trans (hb9.mono HB8.out.size))
                    have HI9 := Lib.hid (HI8.out.below hb9 (Nat.le_refl _))
                    have HS9 := Lib.hid hb9.size
                    clear hb9 m0 m1
                    have HSB : Hid (sameB [(k : Int)] [(k : Int)] = true) := Lib.hid (by unfold sameB; simp)
                    have hz9 : w8.heap.size ≤ w9.heap.size := HS9.out
                    have HIK : Hid (IsInts (w9.alloc (.cells #[.int .i64 (k : Int)] 3)).heap.size (w9.alloc (.cells #[.int .i64 (k : Int)] 3)) (.slice (some ⟨w9.heap.size, 0, none⟩) 1 1) [(k : Int)]) := Lib.hid (litInts (b := w9.heap.size) (xs := [(k : Int)]) rfl (by simp) (by omega) (by intro y hy; obtain rfl := List.mem_singleton.1 hy; unfold I64; omega) (by simp) (Box.new w9 #[.int .i64 (k : Int)] 3))
                    have HI9' : Hid (IsInts (w9.alloc (.cells #[.int .i64 (k : Int)] 3)).heap.size (w9.alloc (.cells #[.int .i64 (k : Int)] 3)) (.slice a8 [(k : Int)].length c8) [(k : Int)]) := Lib.hid ((HI9.out.below (box_below' w9 _) (by omega)).mono (by simp; omega))
                    rcases HEC.out with he | he
                    · rw [he, HCR.out he]
                      clear he HEC
                      go_wp2_with fail
                      refine (same_any _ _ _ _ _ _ HI9'.out HIK.out).mono ?_
                      rintro e w10 ⟨rfl, hd10⟩
                      have HD10 := Lib.hid hd10
                      clear hd10
                      rw [HSB.out]
                      go_wp2
                      go_ret
                      exact ⟨rfl, HW6.out.trans (((HB9.out.alloc (HB9.out.size) _).trans (HD10.out.below _)).mono HW6.out.size)⟩
                    · rw [he]
                      clear he HEC
                      go_wp2_with fail
                      refine (same_any _ _ _ _ _ _ HI9'.out HIK.out).mono ?_
                      rintro e w10 ⟨rfl, hd10⟩
                      have HD10 := Lib.hid hd10
                      clear hd10
                      rw [HSB.out]
                      go_wp2
                      go_ret
                      exact ⟨rfl, HW6.out.trans (((HB9.out.alloc (HB9.out.size) _).trans (HD10.out.below _)).mono HW6.out.size)⟩
    · have hck1 : (checkE f != 0) = true := by simpa using hck
      clear hck
      obtain ⟨z3, r3⟩ := HX3.out
      go_wp2
      go_ret
      exact ⟨rfl, HW3.out⟩

end Go.Proofs.Ythekefnocphcdaa

set_option linter.unusedVariables false

set_option linter.unusedSimpArgs false

namespace Go.Proofs.Ythekefnocphcdaa

/-- the unknown lots among the first k -/
def openTo (f : Flow) : Nat → List Int
  | 0 => []
  | k + 1 => if (lotAt f.lots k).known then openTo f k else openTo f k ++ [(k : Int)]

theorem openTo_len (f : Flow) : ∀ k, (openTo f k).length ≤ k
  | 0 => Nat.le_refl _
  | k + 1 => by
    have := openTo_len f k
    simp only [openTo]
    split
    · omega
    · simp; omega

theorem mem_openTo {f : Flow} {x : Int} : ∀ {n : Nat}, x ∈ openTo f n → ∃ k : Nat, k < n ∧ x = k ∧ (lotAt f.lots k).known = false
  | n + 1, h => by
    simp only [openTo] at h
    split at h
    · obtain ⟨k, a, b, c⟩ := mem_openTo h; exact ⟨k, by omega, b, c⟩
    · rename_i hk
      rcases List.mem_append.1 h with h | h
      · obtain ⟨k, a, b, c⟩ := mem_openTo h; exact ⟨k, by omega, b, c⟩
      · exact ⟨n, by omega, List.mem_singleton.1 h, by simpa using hk⟩

/-- rows put one after the other -/
def accI (l xs : List (List Int)) : Nat → List (List Int)
  | 0 => l
  | i + 1 => putL (rowAt xs i) (accI l xs i)

theorem mem_accI {l xs : List (List Int)} {y : List Int} : ∀ i, y ∈ accI l xs i ↔ y ∈ l ∨ ∃ j, j < i ∧ rowAt xs j = y
  | 0 => by simp [accI]
  | i + 1 => by
    simp only [accI]
    rw [mem_putL, mem_accI i]
    constructor
    · rintro (rfl | h | ⟨j, a, b⟩)
      · exact .inr ⟨i, by omega, rfl⟩
      · exact .inl h
      · exact .inr ⟨j, by omega, b⟩
    · rintro (h | ⟨j, a, b⟩)
      · exact .inr (.inl h)
      · by_cases e : j = i
        · subst e; exact .inl b.symm
        · exact .inr (.inr ⟨j, by omega, b⟩)

/-- behind the first p permutations of lot k -/
def accP (f : Flow) (k : Nat) (P : List (List Int)) : Nat → List (List Int)
  | 0 => []
  | p + 1 => accI (accP f k P p) (asgL (setK f k (rowAt P p))) (asgL (setK f k (rowAt P p))).length

theorem mem_accP {f : Flow} {k : Nat} {P : List (List Int)} {y : List Int} : ∀ p, y ∈ accP f k P p ↔ ∃ j, j < p ∧ y ∈ asgL (setK f k (rowAt P j))
  | 0 => by simp [accP]
  | p + 1 => by
    simp only [accP]
    rw [mem_accI, mem_accP p]
    constructor
    · rintro (⟨j, a, b⟩ | ⟨j, a, b⟩)
      · exact ⟨j, by omega, b⟩
      · exact ⟨p, by omega, by rw [← b]; exact row_mem a⟩
    · rintro ⟨j, a, b⟩
      by_cases e : j = p
      · subst e
        obtain ⟨i, hi, e⟩ := mem_row b
        exact .inr ⟨i, hi, e⟩
      · exact .inl ⟨j, by omega, b⟩

section

variable {f : Flow} {k : Nat} (hk : k < f.lots.length) (hu : (lotAt f.lots k).known = false)
include hk hu

theorem accP_sub {p : Nat} (hp : p ≤ (permsL (lotAt f.lots k).ins.length).length) {y : List Int} (h : y ∈ accP f k (permsL (lotAt f.lots k).ins.length) p) : y ∈ asgL f := by
  obtain ⟨j, hj, hy⟩ := (mem_accP p).1 h
  refine (union_mem hk hu _ hk y).2 ⟨_, row_mem (by omega : j < _), ?_⟩
  have e : (setK f k (rowAt (permsL (lotAt f.lots k).ins.length) j)).lots.length = f.lots.length := set_len f k _
  unfold asgL at hy
  rw [e] at hy
  exact hy

theorem accI_sub {p i : Nat} (hp : p < (permsL (lotAt f.lots k).ins.length).length) (hi : i ≤ (asgL (setK f k (rowAt (permsL (lotAt f.lots k).ins.length) p))).length) {y : List Int}
    (h : y ∈ accI (accP f k (permsL (lotAt f.lots k).ins.length) p) (asgL (setK f k (rowAt (permsL (lotAt f.lots k).ins.length) p))) i) : y ∈ asgL f := by
  refine accP_sub hk hu (p := p + 1) (by omega) ((mem_accP _).2 ?_)
  rcases (mem_accI i).1 h with h | ⟨j, hj, e⟩
  · obtain ⟨j, hj, hy⟩ := (mem_accP p).1 h
    exact ⟨j, by omega, hy⟩
  · exact ⟨p, by omega, by rw [← e]; exact row_mem (by omega)⟩

end

theorem srt_accI {l xs : List (List Int)} {n : Nat} (hl : SrtL l) (hn : ∀ a ∈ l, a.length = n) (hx : ∀ a ∈ xs, a.length = n) : ∀ i, i ≤ xs.length → SrtL (accI l xs i) ∧ ∀ a ∈ accI l xs i, a.length = n
  | 0, _ => ⟨hl, hn⟩
  | i + 1, hi => by
    obtain ⟨h1, h2⟩ := srt_accI hl hn hx i (by omega)
    have hr := hx _ (row_mem (show i < xs.length by omega))
    simp only [accI]
    refine ⟨srt_putL h1 (fun a ha => by rw [h2 a ha, hr]), fun a ha => ?_⟩
    rcases mem_putL.1 ha with rfl | ha
    · exact hr
    · exact h2 a ha

theorem srt_accP {f : Flow} {k : Nat} {P : List (List Int)} : ∀ p, SrtL (accP f k P p) ∧ ∀ a ∈ accP f k P p, a.length = f.senders.toNat
  | 0 => ⟨List.Pairwise.nil, by simp [accP]⟩
  | p + 1 => by
    obtain ⟨h1, h2⟩ := srt_accP (f := f) (k := k) (P := P) p
    simp only [accP]
    exact srt_accI h1 h2 (fun a ha => asg_len (f := setK f k (rowAt P p)) _ a ha) _ (Nat.le_refl _)

/-- all of them together are the assignments -/
theorem accP_all {f : Flow} {k : Nat} (hk : k < f.lots.length) (hu : (lotAt f.lots k).known = false) : accP f k (permsL (lotAt f.lots k).ins.length) (permsL (lotAt f.lots k).ins.length).length = asgL f := by
  refine srt_ext (srt_accP _).1 (asg_srt _) (fun y => ⟨fun h => accP_sub hk hu (Nat.le_refl _) h, fun h => ?_⟩)
  obtain ⟨π, hπ, hy⟩ := (union_mem hk hu _ hk y).1 h
  obtain ⟨j, hj, e⟩ := mem_row hπ
  refine (mem_accP _).2 ⟨j, hj, ?_⟩
  rw [e]
  unfold asgL
  rw [set_len]
  exact hy

end Go.Proofs.Ythekefnocphcdaa

set_option linter.unusedVariables false

set_option linter.unusedSimpArgs false

namespace Go.Proofs.Ythekefnocphcdaa

open Go.RowKit

theorem OwnMat.rowsO {B : Nat} {w : World} {g n cap : Nat} {rows : List (List Int)} (h : OwnMat B w (.slice (some ⟨g, 0, none⟩) n cap) rows) (hn : n = rows.length) :
    ∀ j, j < rows.length → ∃ r, w.cell? ⟨g, j, none⟩ = some r ∧ OwnInts B w r (rowAt rows j) := by
  subst hn
  obtain ⟨vals, h1, h2, h3⟩ := h
  intro j hj
  refine ⟨valAt vals j, ?_, h3 j hj⟩
  have hl : vals.length = rows.length * 1 := h1.1
  have := h1.cellAt j (by omega)
  rw [this]
  unfold valAt
  rw [List.getD_eq_getElem?_getD, List.getElem?_eq_getElem (by omega)]
  rfl

theorem grown_transX {w w' w'' : World} {b b' : Option Nat} (h1 : w.grownBy w' b) (h2 : w'.grownBy w'' b') (hb : b' = b ∨ ∃ q, b' = some q ∧ w.heap.size ≤ q) : w.grownBy w'' b := by
  obtain ⟨a1, a2, a3, a4, a5⟩ := h1
  obtain ⟨c1, c2, c3, c4, c5⟩ := h2
  refine ⟨c1.trans a1, c2.trans a2, c3.trans a3, Nat.le_trans a4 c4, fun k hk hne => ?_⟩
  refine (c5 k (by omega) ?_).trans (a5 k hk hne)
  rcases hb with rfl | ⟨q, rfl, hq⟩
  · exact hne
  · intro e
    have : k = q := by simpa using e
    omega

theorem grown_cell {w w' : World} {b : Option Nat} (h : w.grownBy w' b) {g j : Nat} (hg : g < w.heap.size) (hne : b ≠ some g) : w'.cell? ⟨g, j, none⟩ = w.cell? ⟨g, j, none⟩ := by
  have e := h.5 g hg (fun e => hne (by rw [← e]))
  simp only [World.cell?, e]

end Go.Proofs.Ythekefnocphcdaa

set_option linter.unusedVariables false

set_option linter.unusedSimpArgs false

namespace Go.Proofs.Ythekefnocphcdaa

open Go.RowKit

set_option maxHeartbeats 16000000 in
set_option maxRecDepth 100000 in
/-- CountUnion -/
theorem countUnion_any (B : Nat) (w : World) (vs vl : Value) (f : Flow) (at0 : Nat) (h1 : at0 < 256) (hf : IsFlow B w vs vl f) (hB : B ≤ w.heap.size) :
    Calls Try.prog 5 #[.agg #[vs, vl], .int .u8 at0] w fun e w' => e = .returned (.bool true) ∧ Below w.heap.size w w' := by
  have HF := Lib.hid hf
  obtain ⟨rfl, ⟨hs1, hs2⟩, hl⟩ := hf
  obtain ⟨b, off, cap, ⟨a, rfl, hcap, hmax, ha⟩, hlen, hc⟩ := hl
  have HC := Lib.hid hc
  have HA := Lib.hid ha
  clear hc ha
  go_enter Try.func5, Try.ntmps5
  go_wp2_with fail
  refine (sane27_any _).mono ?_
  rintro e w1 ⟨rfl, hb1⟩
  have HX1 := Lib.hid ((Box.new w #[.int .i64 f.senders, .slice a f.lots.length cap] 24).ext hb1)
  have HW1 : Hid (Below w.heap.size w w1) := Lib.hid ((box_below' w _).trans (hb1.mono (by simp)))
  obtain ⟨z1, r1⟩ := HX1.out
  clear hb1
  go_wp2_with fail
  refine (few27_any B w1 _ _ f (HF.out.below HW1.out hB) (Nat.le_trans hB HW1.out.size)).mono ?_
  rintro e w2 ⟨rfl, hb2⟩
  have HX2 := Lib.hid (HX1.out.ext hb2)
  have HW2 : Hid (Below w.heap.size w w2) := Lib.hid (HW1.out.trans (hb2.mono HW1.out.size))
  clear hb2 z1 r1
  cases hfew : few27 f
  · clear hfew
    go_wp2
    go_ret
    exact ⟨rfl, HW2.out⟩
  · have HFW := Lib.hid hfew
    clear hfew
    obtain ⟨z2, r2⟩ := HX2.out
    go_wp2_with fail
    refine (all27_any B w2 _ _ f (HF.out.below HW2.out hB) (Nat.le_trans hB HW2.out.size)).mono ?_
    rintro e w3 ⟨v3, rfl, ho3, hb3⟩
    have HX3 := Lib.hid (HX2.out.ext hb3)
    have HW3 : Hid (Below w.heap.size w w3) := Lib.hid (HW2.out.trans (hb3.mono HW2.out.size))
    clear hb3 z2 r2
    by_cases hall : allE f = 0
    · have hck : checkE f = 0 := by
        by_cases hc : checkE f = 0
        · exact hc
        · unfold allE at hall
          rw [if_pos hc] at hall
          exact hall
      have h5 : f.senders ≤ 5 := by
        have h := HFW.out
        unfold few27 at h
        simp at h
        unfold allE at hall
        rw [if_neg (by simp [hck])] at hall
        split at hall
        · omega
        · omega
      have HRR : Hid (allR f = asgL f) := Lib.hid (by unfold allR; rw [if_pos hall])
      have HCK := Lib.hid hck
      have H5 := Lib.hid h5
      have hl2 : f.lots.length ≤ 2000 := (checkE_ok hck).2.2.1
      rw [hall]
      rw [HRR.out] at ho3
      have HI3 := Lib.hid ho3.isMat
      obtain ⟨a3, c3, rfl, _⟩ := ho3.form
      clear ho3 hall hck h5
      obtain ⟨z3, r3⟩ := HX3.out
      have HKP3 : Hid (∀ W, Below w3.heap.size w3 W → W.cell? ⟨w.heap.size, 0, none⟩ = some (.int .i64 f.senders) ∧ W.cell? ⟨w.heap.size, 1, none⟩ = some (.slice a f.lots.length cap)) := Lib.hid fun W hW => ⟨(HX3.out.below hW z3).2 0, (HX3.out.below hW z3).2 1⟩
      go_wp2
      go_loopw [7, 8] (fun v i wr => ∃ k : Nat, k ≤ f.lots.length ∧ i = .int .i64 k ∧ OwnInts w3.heap.size wr v (openTo f k) ∧ Below w3.heap.size w3 wr) (fun _ i _ => f.lots.length - (intOf i).toNat)
      case atStart => exact ⟨0, by omega, rfl, OwnInts.nil _ _, Below.refl _ _⟩
      case round =>
        obtain ⟨k, hk, rfl, hno, hbr⟩ := hrel
        have HO := Lib.hid hno
        have HBR := Lib.hid hbr
        clear hno hbr r3
        obtain ⟨k0, k1⟩ := HKP3.out _ HBR.out
        by_cases hlt : k < f.lots.length
        · obtain rfl : a = some ⟨b, off, none⟩ := by rcases HA.out with ha | ha; exact ha; omega
          obtain ⟨vi, vk, vp, q1, q2, q3, qi, rfl, qp⟩ := HC.out k hlt
          have c2 := (q2.below (HW3.out.trans (HBR.out.mono HW3.out.size)) hB).2
          have HS : Hid (openTo f (k + 1) = if (lotAt f.lots k).known then openTo f k else openTo f k ++ [(k : Int)]) := Lib.hid rfl
          have HLn := Lib.hid (openTo_len f k)
          clear q1 q2 q3 qi qp
          cases hkn : (lotAt f.lots k).known
          · rw [hkn] at c2 HS
            clear hkn
            go_wp2_with (at_builtin; refine append_int (n := (k : Int)) rfl _ _ rfl rfl (HO.out.alloc _) rfl ?c1 ?c2 ?c3 ?c4 ?c5)
            try (case c1 => exact World.cell?_alloc_at _ _ _ _ rfl)
            case c2 => unfold I64; omega
            case c3 => have := HLn.out; omega
            case c4 => have := HBR.out.size; simp; omega
            case c5 =>
              intro v' w8 ho8 hg8
              have HO8 := Lib.hid ho8
              have HW8 : Hid (Below w3.heap.size w3 w8) := Lib.hid ((HBR.out.alloc (by have := HBR.out.size; omega) _).grown hg8 (by have := HBR.out.size; simp; omega) (fun q hq => (HO.out.1.lt q hq).1))
              clear ho8 hg8
              go_wp2
              go_roundw
              case rel => exact ⟨k + 1, by omega, by go_num, by rw [HS.out]; exact HO8.out, HW8.out⟩
              case measure => simp [intOf]; omega
          · rw [hkn] at c2 HS
            clear hkn
            go_wp2
            go_roundw
            case rel => exact ⟨k + 1, by omega, by go_num, by rw [HS.out]; exact HO.out, HBR.out⟩
            case measure => simp [intOf]; omega
        · obtain rfl : k = f.lots.length := by omega
          obtain ⟨a9, c9, rfl, _⟩ := HO.out.form
          obtain ⟨w4, rfl⟩ : ∃ W, W = wr := ⟨_, rfl⟩
          have HX4 := Lib.hid (HX3.out.below HBR.out z3)
          have HW4 : Hid (Below w.heap.size w w4) := Lib.hid (HW3.out.trans (HBR.out.mono HW3.out.size))
          have HI4 := Lib.hid ((HI3.out.below HBR.out (Nat.le_refl _)).mono HBR.out.size)
          have HU4 := Lib.hid HO.out.isInts
          have HUM := Lib.hid (fun x (hx : x ∈ openTo f f.lots.length) => mem_openTo hx)
          have HUL := Lib.hid (openTo_len f f.lots.length)
          clear HO HBR HI3
          obtain ⟨U, hU⟩ : ∃ U, openTo f f.lots.length = U := ⟨_, rfl⟩
          rw [hU] at HU4 HUM HUL ⊢
          clear hU
          by_cases hz : U.length = 0
          · have hz' : ((U.length : Int) == 0) = true := beq_iff_eq.2 (by omega)
            clear hz
            go_wp2
            go_ret
            exact ⟨rfl, HW4.out⟩
          · have hz' : ((U.length : Int) == 0) = false := beq_eq_false_iff_ne.2 (by omega)
            obtain ⟨bu, ou, cu, ⟨au, eu, hcapu, hmaxu, hau⟩, hlenu, hzu, hcu⟩ := HU4.out
            obtain ⟨rfl, rfl⟩ : a9 = au ∧ c9 = cu := by simpa using eu
            obtain rfl : a9 = some ⟨bu, ou, none⟩ := by rcases hau with h | h; exact h; omega
            have hm1 : ((at0 : Int).tmod (U.length : Int)) = ((at0 % U.length : Nat) : Int) := by rw [Int.ofNat_tmod]
            have hm2 : at0 % U.length < U.length := Nat.mod_lt _ (by omega)
            obtain ⟨k, hk1, hk2, hk3⟩ := HUM.out _ (nth_mem' hm2)
            have hcell := hcu _ hm2
            rw [hk2] at hcell
            have HCU := Lib.hid hcell
            have HKU := Lib.hid hk3
            clear hcu hzu hau eu hcell hk2 hk3 HUM HU4
            obtain rfl : a = some ⟨b, off, none⟩ := by rcases HA.out with h | h; exact h; omega
            obtain ⟨z4, r4⟩ := HX4.out
            go_wp2_with fail
            refine (check25_any B w4 _ _ f (HF.out.below HW4.out hB) (Nat.le_trans hB HW4.out.size)).mono ?_
            rintro e w5 ⟨rfl, hb5⟩
            have HX5 := Lib.hid (HX4.out.ext hb5)
            have HW5 : Hid (Below w.heap.size w w5) := Lib.hid (HW4.out.trans (hb5.mono HW4.out.size))
            have HB5 := Lib.hid hb5
            clear hb5 z4 r4
            rw [HCK.out]
            have HI5 := Lib.hid (HI4.out.below HB5.out (Nat.le_refl _))
            obtain ⟨m, hm⟩ : ∃ m, at0 % U.length = m := ⟨_, rfl⟩
            rw [hm] at hm1 hm2 HCU
            clear hm HI4
            have q1 := (HB5.out.cell (p := ⟨bu, ou + m, none⟩) HCU.out.1).trans HCU.out.2
            obtain ⟨z5, r5⟩ := HX5.out
            obtain ⟨vi, vk, vp, x1, _, _, ⟨_, _, ci, ⟨ai, rfl, _⟩, _⟩, _, _⟩ := id (HC.out k hk1)
            have hcl := HC.out k hk1
            have HIXs : Hid (IsInts B w (.slice ai (lotAt f.lots k).ins.length ci) (lotAt f.lots k).ins) := by
              obtain ⟨vi', _, _, q1', _, _, qi, _⟩ := hcl
              have := q1'.2.symm.trans x1.2
              simp at this
              rw [this] at qi
              exact Lib.hid qi
            have HLK : Hid (∀ W, Below w.heap.size w W → W.cell? ⟨b, off + k * 3, none⟩ = some (.slice ai (lotAt f.lots k).ins.length ci)) := Lib.hid fun W hW => (x1.below hW hB).2
            clear x1 hcl
            have k2 := HLK.out _ HW5.out
            have HN5 : Hid ((lotAt f.lots k).ins.length ≤ 5) := Lib.hid (by
              obtain ⟨h0, _, _, _, hl⟩ := checkE_ok HCK.out
              have h := ins_few h0 hl hk1
              have := H5.out
              omega)
            go_wp2_with fail
            refine (perms27_any (lotAt f.lots k).ins.length (by have := HN5.out; omega) w5).mono ?_
            rintro e w6 ⟨v6, rfl, ho6, hb6⟩
            have HX6 := Lib.hid (HX5.out.ext hb6)
            have HW6 : Hid (Below w.heap.size w w6) := Lib.hid (HW5.out.trans (hb6.mono HW5.out.size))
            have HI6 := Lib.hid (IsMat.mono (B' := w6.heap.size) (HI5.out.below hb6 (by have := HB5.out.size; omega)) (by have := HB5.out.size; have := hb6.size; omega))
            have HPI := Lib.hid ho6.isMat
            have HPF := Lib.hid (accP_all hk1 HKU.out)
            have HSB := Lib.hid (fun p i y (hp : p < (permsL (lotAt f.lots k).ins.length).length) hi hy => accI_sub hk1 HKU.out (p := p) (i := i) (y := y) hp hi hy)
            obtain ⟨a6, c6, rfl, _⟩ := ho6.form
            have HPL : Hid ((permsL (lotAt f.lots k).ins.length).length ≤ 1000000) := Lib.hid (by
              have := HN5.out
              rw [permsL_len]
              have h := facN_mono this
              exact Nat.le_trans h (by decide))
            have HPP : Hid (∀ π ∈ permsL (lotAt f.lots k).ins.length, permB π (lotAt f.lots k).ins.length = true) := Lib.hid fun π h => mem_permsL.1 h
            obtain ⟨P, hP⟩ : ∃ P, permsL (lotAt f.lots k).ins.length = P := ⟨_, rfl⟩
            rw [hP] at HPI HPF HSB HPL HPP ⊢
            have hpl6 := HPL.out
            clear hb6 ho6 hP q1 k2 z5 r5 HI5
            obtain ⟨z6, r6⟩ := HX6.out
            go_wp2
            go_loopw [11, 12] (fun v i wr => ∃ q : Nat, q ≤ P.length ∧ i = .int .i64 q ∧ OwnMat w6.heap.size wr v (accP f k P q) ∧ Below w6.heap.size w6 wr) (fun _ i _ => P.length - (intOf i).toNat)
            case atStart => exact ⟨0, by omega, rfl, OwnMat.nil _ _, Below.refl _ _⟩
            case round =>
              obtain ⟨q, hq, rfl, hno, hbr⟩ := hrel
              have HO := Lib.hid hno
              have HBR := Lib.hid hbr
              clear hno hbr r6
              obtain ⟨W6, rfl⟩ : ∃ W, W = wr := ⟨_, rfl⟩
              have HW7 : Hid (Below w.heap.size w W6) := Lib.hid (HW6.out.trans (HBR.out.mono HW6.out.size))
              by_cases hlt : q < P.length
              · have HX7 := Lib.hid (HX6.out.ext HBR.out)
                obtain ⟨z7, r7⟩ := HX7.out
                go_upto_region 22 with fail
                have HSF : Hid (∀ W, Below W6.heap.size W6 W → SrcLots W6.heap.size W (.slice (some ⟨b, off, none⟩) f.lots.length cap) f.lots) := Lib.hid fun W hW => (HF.out.2.2.below (HW7.out.trans (hW.mono HW7.out.size)) hB).src (Nat.le_trans hB HW7.out.size)
                have HKP : Hid (∀ W, Below W6.heap.size W6 W → W.cell? ⟨w.heap.size, 0, none⟩ = some (.int .i64 f.senders) ∧ W.cell? ⟨w.heap.size, 1, none⟩ = some (.slice (some ⟨b, off, none⟩) f.lots.length cap)) := Lib.hid fun W hW => ⟨(HX7.out.below hW z7).2 0, (HX7.out.below hW z7).2 1⟩
                have HLK7 : Hid (∀ W, Below W6.heap.size W6 W → W.cell? ⟨b, off + k * 3, none⟩ = some (.slice ai (lotAt f.lots k).ins.length ci)) := Lib.hid fun W hW => HLK.out _ (HW7.out.trans (hW.mono HW7.out.size))
                obtain ⟨bp, op, rfl, hrow⟩ := HPI.out.cells (by omega)
                obtain ⟨vr, hr1, hr2⟩ := hrow q hlt
                obtain ⟨ar, cr, rfl⟩ := hr2.form
                have HPR : Hid (∀ W, Below W6.heap.size W6 W → W.cell? ⟨bp, op + q, none⟩ = some (.slice ar (rowAt P q).length cr)) := Lib.hid fun W hW => ((hr1.below HBR.out (Nat.le_refl _)).below hW HBR.out.size).2
                have HIX : Hid (∀ W, Below W6.heap.size W6 W → IsLot W6.heap.size W (.slice ai (lotAt f.lots k).ins.length ci) (.bool true) (.slice ar (rowAt P q).length cr) ⟨(lotAt f.lots k).ins, true, rowAt P q⟩) := Lib.hid fun W hW =>
                  ⟨(HIXs.out.below (HW7.out.trans (hW.mono HW7.out.size)) hB).mono (Nat.le_trans hB HW7.out.size), rfl, ((hr2.below HBR.out (Nat.le_refl _)).below hW HBR.out.size).mono HBR.out.size⟩
                have hklt := hk1
                clear r7 hr1 hr2 hrow
                obtain ⟨V, hV⟩ : ∃ V : List (Option Value), V = [some (.pointer (some ⟨w.heap.size, 0, none⟩)), some (.int .i64 f.senders), none, some (.pointer (some ⟨w.heap.size, 1, none⟩)), some (.slice (some ⟨b, off, none⟩) f.lots.length cap), none, none, none, none] := ⟨_, rfl⟩
                have HVV := Lib.hid hV
                clear hV
                refine wp_region_V [some 83, some 84, some 85, some 86, some 87, some 88, some 89, some 13, none] (fun L w' xs => ValsAt V L xs ∧ (AC W6 f.lots (.int .i64 f.senders) L (xs 2) (xs 5) (xs 6) (xs 7) w')) (by kernel_rfl) (by kernel_rfl) (by rfl) (by rfl) (by rfl) ?_ ?_ ?_
                focus
                  exact fun xs => ⟨ValsAt.none _ _, AC.start (below_drewN (Below.refl _ _) 1)⟩
                focus
                  refine ⟨?_, ?_, ?_, ?_, ?_, ?_, ?_, ?_, ?_, trivial⟩
                  all_goals
                    intro L a' w' xs hi hd hf hJ K hK
                    obtain ⟨hv, hA⟩ := hJ
                    have HF := Lib.hid hf
                    have HVA := Lib.hid hv
                    have HLI := Lib.hid hi
                    clear hf hv hi
                  focus
                    clear hd
                    obtain ⟨ρ, hρ⟩ : ∃ ρ, a'.eval = ρ := ⟨_, rfl⟩
                    have hcst : ∀ v, ρ (.const v) = v := fun v => (congrFun hρ (.const v)).symm
                    have l2 : ρ (.tmp 2) = .pointer (some ⟨w.heap.size, 0, none⟩) := (congrFun hρ (.tmp 2)).symm.trans (HF.out.lo 2 rfl)
                    rw [if_pos (by simp [Region.wanted])]
                    unfold Oper.wp
                    rw [hρ]
                    clear hρ
                    go_simp
                    exact hK.out _ _ ⟨HVA.out.set (i := 0) (by rw [HVV.out]; rfl), (by simp only [updV_ne (xs := xs) (show (2 : Nat) ≠ 0 by decide), updV_ne (xs := xs) (show (5 : Nat) ≠ 0 by decide), updV_ne (xs := xs) (show (6 : Nat) ≠ 0 by decide), updV_ne (xs := xs) (show (7 : Nat) ≠ 0 by decide)]; exact hA.pass (by omega))⟩
                  focus
                    obtain ⟨d0, _⟩ := hd
                    obtain ⟨ρ, hρ⟩ : ∃ ρ, a'.eval = ρ := ⟨_, rfl⟩
                    have hcst : ∀ v, ρ (.const v) = v := fun v => (congrFun hρ (.const v)).symm
                    have v0 : ρ (.tmp 83) = .pointer (some ⟨w.heap.size, 0, none⟩) := (congrFun hρ (.tmp 83)).symm.trans ((HF.out.ev 0 rfl d0).trans (HVA.out 0 _ (by rw [HVV.out]; rfl) d0))
                    obtain ⟨k0, k1⟩ := HKP.out _ hA.hb
                    rw [if_pos (by simp [Region.wanted])]
                    unfold Oper.wp
                    rw [hρ]
                    clear hρ
                    go_simp
                    exact hK.out _ _ ⟨HVA.out.set (i := 1) (by rw [HVV.out]; rfl), (by simp only [updV_ne (xs := xs) (show (2 : Nat) ≠ 1 by decide), updV_ne (xs := xs) (show (5 : Nat) ≠ 1 by decide), updV_ne (xs := xs) (show (6 : Nat) ≠ 1 by decide), updV_ne (xs := xs) (show (7 : Nat) ≠ 1 by decide)]; exact hA.pass (by omega))⟩
                  focus
                    clear hd
                    obtain ⟨ρ, hρ⟩ : ∃ ρ, a'.eval = ρ := ⟨_, rfl⟩
                    have hcst : ∀ v, ρ (.const v) = v := fun v => (congrFun hρ (.const v)).symm
                    rw [if_pos (by simp [Region.wanted])]
                    unfold Oper.wp
                    rw [hρ]
                    clear hρ
                    go_simp
                    exact hK.out _ _ ⟨HVA.out.free (i := 2) (by rw [HVV.out]; rfl) _, (by simp only [updV_ne (xs := xs) (show (5 : Nat) ≠ 2 by decide), updV_ne (xs := xs) (show (6 : Nat) ≠ 2 by decide), updV_ne (xs := xs) (show (7 : Nat) ≠ 2 by decide), updV_self]; exact hA.s2 HLI.out)⟩
                  focus
                    clear hd
                    obtain ⟨ρ, hρ⟩ : ∃ ρ, a'.eval = ρ := ⟨_, rfl⟩
                    have hcst : ∀ v, ρ (.const v) = v := fun v => (congrFun hρ (.const v)).symm
                    have l2 : ρ (.tmp 2) = .pointer (some ⟨w.heap.size, 0, none⟩) := (congrFun hρ (.tmp 2)).symm.trans (HF.out.lo 2 rfl)
                    rw [if_pos (by simp [Region.wanted])]
                    unfold Oper.wp
                    rw [hρ]
                    clear hρ
                    go_simp
                    exact hK.out _ _ ⟨HVA.out.set (i := 3) (by rw [HVV.out]; rfl), (by simp only [updV_ne (xs := xs) (show (2 : Nat) ≠ 3 by decide), updV_ne (xs := xs) (show (5 : Nat) ≠ 3 by decide), updV_ne (xs := xs) (show (6 : Nat) ≠ 3 by decide), updV_ne (xs := xs) (show (7 : Nat) ≠ 3 by decide)]; exact hA.pass (by omega))⟩
                  focus
                    obtain ⟨d3, _⟩ := hd
                    obtain ⟨ρ, hρ⟩ : ∃ ρ, a'.eval = ρ := ⟨_, rfl⟩
                    have hcst : ∀ v, ρ (.const v) = v := fun v => (congrFun hρ (.const v)).symm
                    have v3 : ρ (.tmp 86) = .pointer (some ⟨w.heap.size, 1, none⟩) := (congrFun hρ (.tmp 86)).symm.trans ((HF.out.ev 3 rfl d3).trans (HVA.out 3 _ (by rw [HVV.out]; rfl) d3))
                    obtain ⟨k0, k1⟩ := HKP.out _ hA.hb
                    rw [if_pos (by simp [Region.wanted])]
                    unfold Oper.wp
                    rw [hρ]
                    clear hρ
                    go_simp
                    exact hK.out _ _ ⟨HVA.out.set (i := 4) (by rw [HVV.out]; rfl), (by simp only [updV_ne (xs := xs) (show (2 : Nat) ≠ 4 by decide), updV_ne (xs := xs) (show (5 : Nat) ≠ 4 by decide), updV_ne (xs := xs) (show (6 : Nat) ≠ 4 by decide), updV_ne (xs := xs) (show (7 : Nat) ≠ 4 by decide)]; exact hA.pass (by omega))⟩
                  focus
                    obtain ⟨d2, d4, _⟩ := hd
                    have v2 : a'.eval (.tmp 85) = xs 2 := HF.out.ev 2 rfl d2
                    have v4 : a'.eval (.tmp 87) = .slice (some ⟨b, off, none⟩) f.lots.length cap := (HF.out.ev 4 rfl d4).trans (HVA.out 4 _ (by rw [HVV.out]; rfl) d4)
                    rw [if_pos (by simp [Region.wanted])]
                    obtain ⟨v5, w5, q1, q2, q3, q4⟩ := run_append_lots (ty := 22) (hA.h2 d2 HLI.out) (HSF.out _ hA.hb) (by simp; omega) hA.hb.size
                    refine wp_of_append w' rfl v2 v4 q1 ?_
                    exact hK.out _ _ ⟨HVA.out.free (i := 5) (by rw [HVV.out]; rfl) _, (by simp only [updV_ne (xs := xs) (show (2 : Nat) ≠ 5 by decide), updV_ne (xs := xs) (show (6 : Nat) ≠ 5 by decide), updV_ne (xs := xs) (show (7 : Nat) ≠ 5 by decide), updV_self]; exact hA.s5 HLI.out d2 (by simpa using q2) q3 q4)⟩
                  focus
                    obtain ⟨d1, d5, _⟩ := hd
                    obtain ⟨ρ, hρ⟩ : ∃ ρ, a'.eval = ρ := ⟨_, rfl⟩
                    have hcst : ∀ v, ρ (.const v) = v := fun v => (congrFun hρ (.const v)).symm
                    have v1 : ρ (.tmp 84) = .int .i64 f.senders := (congrFun hρ (.tmp 84)).symm.trans ((HF.out.ev 1 rfl d1).trans (HVA.out 1 _ (by rw [HVV.out]; rfl) d1))
                    have v5 : ρ (.tmp 88) = xs 5 := (congrFun hρ (.tmp 88)).symm.trans (HF.out.ev 5 rfl d5)
                    rw [if_pos (by simp [Region.wanted])]
                    unfold Oper.wp
                    rw [hρ]
                    clear hρ
                    obtain ⟨a6, c6, e6⟩ := (hA.h5 d5).form
                    rw [e6] at v5
                    have HE6 := Lib.hid e6
                    clear e6
                    go_simp
                    exact hK.out _ _ ⟨HVA.out.free (i := 6) (by rw [HVV.out]; rfl) _, (by simp only [updV_ne (xs := xs) (show (2 : Nat) ≠ 6 by decide), updV_ne (xs := xs) (show (5 : Nat) ≠ 6 by decide), updV_ne (xs := xs) (show (7 : Nat) ≠ 6 by decide), updV_self]; rw [← HE6.out]; exact hA.s6 HLI.out d5)⟩
                  focus
                    clear hd
                    obtain ⟨ρ, hρ⟩ : ∃ ρ, a'.eval = ρ := ⟨_, rfl⟩
                    have hcst : ∀ v, ρ (.const v) = v := fun v => (congrFun hρ (.const v)).symm
                    rw [if_pos (by simp [Region.wanted])]
                    unfold Oper.wp
                    rw [hρ]
                    clear hρ
                    go_simp
                    exact hK.out _ _ ⟨HVA.out.free (i := 7) (by rw [HVV.out]; rfl) _, (by simp only [updV_ne (xs := xs) (show (2 : Nat) ≠ 7 by decide), updV_ne (xs := xs) (show (5 : Nat) ≠ 7 by decide), updV_ne (xs := xs) (show (6 : Nat) ≠ 7 by decide), updV_self]; exact hA.s7 HLI.out _)⟩
                  focus
                    obtain ⟨d7, d6, d5, d0, d1, d2, d3, d4, _, _, _, _⟩ := hd
                    obtain ⟨ρ, hρ⟩ : ∃ ρ, a'.eval = ρ := ⟨_, rfl⟩
                    have hcst : ∀ v, ρ (.const v) = v := fun v => (congrFun hρ (.const v)).symm
                    have v7 : ρ (.tmp 13) = xs 7 := (congrFun hρ (.tmp 13)).symm.trans (HF.out.ev 7 rfl d7)
                    have v6 : ρ (.tmp 89) = xs 6 := (congrFun hρ (.tmp 89)).symm.trans (HF.out.ev 6 rfl d6)
                    rw [if_pos (by simp [Region.wanted])]
                    unfold Oper.wp
                    rw [hρ]
                    clear hρ
                    obtain ⟨a6, c6, e6⟩ := (hA.h5 (hA.c6 d6)).form
                    obtain ⟨p, e7, p1, p2, p3, p4⟩ := hA.h7 d7 HLI.out
                    rw [e7] at v7
                    rw [hA.h6 d6, e6] at v6
                    have HE6 := Lib.hid e6
                    have HE7 := Lib.hid e7
                    have m0 := p2.cell 0
                    have m1 := p2.cell 1
                    have g0 := p2.free 0
                    have g1 := p2.free 1
                    simp at m0 m1
                    clear e6 e7 p1 p2 p3 p4
                    go_simp
                    exact hK.out undef _ ⟨HVA.out.free (i := 8) (by rw [HVV.out]; rfl) _, (by simp only [updV_ne (xs := xs) (show (2 : Nat) ≠ 8 by decide), updV_ne (xs := xs) (show (5 : Nat) ≠ 8 by decide), updV_ne (xs := xs) (show (6 : Nat) ≠ 8 by decide), updV_ne (xs := xs) (show (7 : Nat) ≠ 8 by decide)]; exact hA.s8 HLI.out d7 d6 (hA.c6 d6) d2 HE7.out HE6.out)⟩
                focus
                  intro L w' xs hL hJ
                  obtain ⟨hv, hA⟩ := hJ
                  have e0 : xs 0 = .pointer (some ⟨w.heap.size, 0, none⟩) := hv 0 _ (by rw [HVV.out]; rfl) (hL 0 (by decide))
                  have e1 : xs 1 = .int .i64 f.senders := hv 1 _ (by rw [HVV.out]; rfl) (hL 1 (by decide))
                  have e3 : xs 3 = .pointer (some ⟨w.heap.size, 1, none⟩) := hv 3 _ (by rw [HVV.out]; rfl) (hL 3 (by decide))
                  have e4 : xs 4 = .slice (some ⟨b, off, none⟩) f.lots.length cap := hv 4 _ (by rw [HVV.out]; rfl) (hL 4 (by decide))
                  simp only [putGo, Act.put, List.setIfInBounds_toArray, List.set_cons_zero, List.set_cons_succ, e0, e1, e3, e4]
                  clear hv e0 e1 e3 e4
                  obtain ⟨p, n5, c5, a5, e7, hp1, hp2, ho5, hb5⟩ := hA.h8 (hL 8 (by decide))
                  simp only [e7]
                  clear e7 hL hA
                  obtain ⟨W7, hW7⟩ : ∃ W, W = w' := ⟨_, rfl⟩
                  rw [← hW7] at hp2 ho5 hb5 ⊢
                  clear hW7
                  obtain ⟨g, c5', e5, hg1, hg2, hg3⟩ := ho5.addr (by omega)
                  obtain ⟨rfl, rfl, rfl⟩ : a5 = some ⟨g, 0, none⟩ ∧ n5 = f.lots.length ∧ c5 = c5' := by simpa using e5
                  have HO5 := Lib.hid ho5
                  have HP5 := Lib.hid hp2
                  have HB5 := Lib.hid hb5
                  have HGB := Lib.hid hg1
                  clear ho5 hb5 e5 hp2
                  go_upto_region 23 with fail
                  obtain ⟨V, hV⟩ : ∃ V : List (Option Value), V = [some (.pointer (some ⟨p, 1, none⟩)), some (.slice (some ⟨g, 0, none⟩) f.lots.length c5), some (.int .i64 (k : Int)), some (.pointer (some ⟨w.heap.size, 1, none⟩)), some (.slice (some ⟨b, off, none⟩) f.lots.length cap), some (.int .i64 (k : Int)), some (.pointer (some ⟨b, off + k * 3, none⟩)), some (.pointer (some ⟨b, off + k * 3, none⟩)), some (.slice ai (lotAt f.lots k).ins.length ci), some (.slice (some ⟨bp, op, none⟩) P.length c6), some (.int .i64 (q : Int)), some (.pointer (some ⟨bp, op + q, none⟩)), some (.slice ar (rowAt P q).length cr), some (.agg #[.slice ai (lotAt f.lots k).ins.length ci, .bool true, .slice ar (rowAt P q).length cr]), some (.pointer (some ⟨g, k * 3, none⟩)), none] := ⟨_, rfl⟩
                  have HVV := Lib.hid hV
                  clear hV
                  refine wp_region_V [some 90, some 91, some 92, some 93, some 94, some 95, some 96, some 97, some 98, some 99, some 100, some 101, some 102, some 103, some 104, none] (fun L w' xs => ValsAt V L xs ∧ (Below W6.heap.size W6 w' ∧ CellsN w' p #[.int .i64 f.senders, .slice (some ⟨g, 0, none⟩) f.lots.length c5] ∧ (L 15 = false → OwnLots W6.heap.size w' (.slice (some ⟨g, 0, none⟩) f.lots.length c5) f.lots) ∧ (L 15 = true → OwnLots W6.heap.size w' (.slice (some ⟨g, 0, none⟩) f.lots.length c5) (f.lots.set k ⟨(lotAt f.lots k).ins, true, rowAt P q⟩)))) (by kernel_rfl) (by kernel_rfl) (by rfl) (by rfl) (by rfl) ?_ ?_ ?_
                  focus
                    exact fun xs => ⟨ValsAt.none _ _, below_drewN HB5.out 1, HP5.out, (fun _ => HO5.out), (fun h => by cases h)⟩
                  focus
                    refine ⟨?_, ?_, ?_, ?_, ?_, ?_, ?_, ?_, ?_, ?_, ?_, ?_, ?_, ?_, ?_, ?_, trivial⟩
                    all_goals
                      intro L a' w' xs hi hd hf hJ K hK
                      obtain ⟨hv, hb, hp, ho, hs⟩ := hJ
                      have HF := Lib.hid hf
                      have HVA := Lib.hid hv
                      have HLI := Lib.hid hi
                      clear hf hv hi
                    focus
                      clear hd
                      obtain ⟨ρ, hρ⟩ : ∃ ρ, a'.eval = ρ := ⟨_, rfl⟩
                      have hcst : ∀ v, ρ (.const v) = v := fun v => (congrFun hρ (.const v)).symm
                      have l13 : ρ (.tmp 13) = .pointer (some ⟨p, 0, none⟩) := (congrFun hρ (.tmp 13)).symm.trans (HF.out.lo 13 rfl)
                      rw [if_pos (by simp [Region.wanted])]
                      unfold Oper.wp
                      rw [hρ]
                      clear hρ
                      go_simp
                      exact hK.out _ _ ⟨HVA.out.set (i := 0) (by rw [HVV.out]; rfl), hb, hp, ho, hs⟩
                    focus
                      obtain ⟨d0, _⟩ := hd
                      obtain ⟨ρ, hρ⟩ : ∃ ρ, a'.eval = ρ := ⟨_, rfl⟩
                      have hcst : ∀ v, ρ (.const v) = v := fun v => (congrFun hρ (.const v)).symm
                      have v0 : ρ (.tmp 90) = .pointer (some ⟨p, 1, none⟩) := (congrFun hρ (.tmp 90)).symm.trans ((HF.out.ev 0 rfl d0).trans (HVA.out 0 _ (by rw [HVV.out]; rfl) d0))
                      have m1 := hp.cell 1
                      simp at m1
                      rw [if_pos (by simp [Region.wanted])]
                      unfold Oper.wp
                      rw [hρ]
                      clear hρ
                      go_simp
                      exact hK.out _ _ ⟨HVA.out.set (i := 1) (by rw [HVV.out]; rfl), hb, hp, ho, hs⟩
                    focus
                      clear hd
                      obtain ⟨ρ, hρ⟩ : ∃ ρ, a'.eval = ρ := ⟨_, rfl⟩
                      have hcst : ∀ v, ρ (.const v) = v := fun v => (congrFun hρ (.const v)).symm
                      have l9 : ρ (.tmp 9) = .int .i64 (k : Int) := (congrFun hρ (.tmp 9)).symm.trans (HF.out.lo 9 rfl)
                      rw [if_pos (by simp [Region.wanted])]
                      unfold Oper.wp
                      rw [hρ]
                      clear hρ
                      go_simp
                      exact hK.out _ _ ⟨HVA.out.set (i := 2) (by rw [HVV.out]; rfl), hb, hp, ho, hs⟩
                    focus
                      clear hd
                      obtain ⟨ρ, hρ⟩ : ∃ ρ, a'.eval = ρ := ⟨_, rfl⟩
                      have hcst : ∀ v, ρ (.const v) = v := fun v => (congrFun hρ (.const v)).symm
                      have l2 : ρ (.tmp 2) = .pointer (some ⟨w.heap.size, 0, none⟩) := (congrFun hρ (.tmp 2)).symm.trans (HF.out.lo 2 rfl)
                      rw [if_pos (by simp [Region.wanted])]
                      unfold Oper.wp
                      rw [hρ]
                      clear hρ
                      go_simp
                      exact hK.out _ _ ⟨HVA.out.set (i := 3) (by rw [HVV.out]; rfl), hb, hp, ho, hs⟩
                    focus
                      obtain ⟨d3, _⟩ := hd
                      obtain ⟨ρ, hρ⟩ : ∃ ρ, a'.eval = ρ := ⟨_, rfl⟩
                      have hcst : ∀ v, ρ (.const v) = v := fun v => (congrFun hρ (.const v)).symm
                      have v3 : ρ (.tmp 93) = .pointer (some ⟨w.heap.size, 1, none⟩) := (congrFun hρ (.tmp 93)).symm.trans ((HF.out.ev 3 rfl d3).trans (HVA.out 3 _ (by rw [HVV.out]; rfl) d3))
                      obtain ⟨k0, k1⟩ := HKP.out _ hb
                      rw [if_pos (by simp [Region.wanted])]
                      unfold Oper.wp
                      rw [hρ]
                      clear hρ
                      go_simp
                      exact hK.out _ _ ⟨HVA.out.set (i := 4) (by rw [HVV.out]; rfl), hb, hp, ho, hs⟩
                    focus
                      clear hd
                      obtain ⟨ρ, hρ⟩ : ∃ ρ, a'.eval = ρ := ⟨_, rfl⟩
                      have hcst : ∀ v, ρ (.const v) = v := fun v => (congrFun hρ (.const v)).symm
                      have l9 : ρ (.tmp 9) = .int .i64 (k : Int) := (congrFun hρ (.tmp 9)).symm.trans (HF.out.lo 9 rfl)
                      rw [if_pos (by simp [Region.wanted])]
                      unfold Oper.wp
                      rw [hρ]
                      clear hρ
                      go_simp
                      exact hK.out _ _ ⟨HVA.out.set (i := 5) (by rw [HVV.out]; rfl), hb, hp, ho, hs⟩
                    focus
                      obtain ⟨d4, d5, _⟩ := hd
                      obtain ⟨ρ, hρ⟩ : ∃ ρ, a'.eval = ρ := ⟨_, rfl⟩
                      have hcst : ∀ v, ρ (.const v) = v := fun v => (congrFun hρ (.const v)).symm
                      have v4 : ρ (.tmp 94) = .slice (some ⟨b, off, none⟩) f.lots.length cap := (congrFun hρ (.tmp 94)).symm.trans ((HF.out.ev 4 rfl d4).trans (HVA.out 4 _ (by rw [HVV.out]; rfl) d4))
                      have v5 : ρ (.tmp 95) = .int .i64 (k : Int) := (congrFun hρ (.tmp 95)).symm.trans ((HF.out.ev 5 rfl d5).trans (HVA.out 5 _ (by rw [HVV.out]; rfl) d5))
                      rw [if_pos (by simp [Region.wanted])]
                      unfold Oper.wp
                      rw [hρ]
                      clear hρ
                      go_simp
                      exact hK.out _ _ ⟨HVA.out.set (i := 6) (by rw [HVV.out]; rfl), hb, hp, ho, hs⟩
                    focus
                      obtain ⟨d6, _⟩ := hd
                      obtain ⟨ρ, hρ⟩ : ∃ ρ, a'.eval = ρ := ⟨_, rfl⟩
                      have hcst : ∀ v, ρ (.const v) = v := fun v => (congrFun hρ (.const v)).symm
                      have v6 : ρ (.tmp 96) = .pointer (some ⟨b, off + k * 3, none⟩) := (congrFun hρ (.tmp 96)).symm.trans ((HF.out.ev 6 rfl d6).trans (HVA.out 6 _ (by rw [HVV.out]; rfl) d6))
                      rw [if_pos (by simp [Region.wanted])]
                      unfold Oper.wp
                      rw [hρ]
                      clear hρ
                      go_simp
                      exact hK.out _ _ ⟨HVA.out.set (i := 7) (by rw [HVV.out]; rfl), hb, hp, ho, hs⟩
                    focus
                      obtain ⟨d7, _⟩ := hd
                      obtain ⟨ρ, hρ⟩ : ∃ ρ, a'.eval = ρ := ⟨_, rfl⟩
                      have hcst : ∀ v, ρ (.const v) = v := fun v => (congrFun hρ (.const v)).symm
                      have v7 : ρ (.tmp 97) = .pointer (some ⟨b, off + k * 3, none⟩) := (congrFun hρ (.tmp 97)).symm.trans ((HF.out.ev 7 rfl d7).trans (HVA.out 7 _ (by rw [HVV.out]; rfl) d7))
                      have k2 := HLK7.out _ hb
                      rw [if_pos (by simp [Region.wanted])]
                      unfold Oper.wp
                      rw [hρ]
                      clear hρ
                      go_simp
                      exact hK.out _ _ ⟨HVA.out.set (i := 8) (by rw [HVV.out]; rfl), hb, hp, ho, hs⟩
                    focus
                      clear hd
                      obtain ⟨ρ, hρ⟩ : ∃ ρ, a'.eval = ρ := ⟨_, rfl⟩
                      have hcst : ∀ v, ρ (.const v) = v := fun v => (congrFun hρ (.const v)).symm
                      have l10 : ρ (.tmp 10) = .slice (some ⟨bp, op, none⟩) P.length c6 := (congrFun hρ (.tmp 10)).symm.trans (HF.out.lo 10 rfl)
                      rw [if_pos (by simp [Region.wanted])]
                      unfold Oper.wp
                      rw [hρ]
                      clear hρ
                      go_simp
                      exact hK.out _ _ ⟨HVA.out.set (i := 9) (by rw [HVV.out]; rfl), hb, hp, ho, hs⟩
                    focus
                      clear hd
                      obtain ⟨ρ, hρ⟩ : ∃ ρ, a'.eval = ρ := ⟨_, rfl⟩
                      have hcst : ∀ v, ρ (.const v) = v := fun v => (congrFun hρ (.const v)).symm
                      have l12 : ρ (.tmp 12) = .int .i64 (q : Int) := (congrFun hρ (.tmp 12)).symm.trans (HF.out.lo 12 rfl)
                      rw [if_pos (by simp [Region.wanted])]
                      unfold Oper.wp
                      rw [hρ]
                      clear hρ
                      go_simp
                      exact hK.out _ _ ⟨HVA.out.set (i := 10) (by rw [HVV.out]; rfl), hb, hp, ho, hs⟩
                    focus
                      obtain ⟨d9, d10, _⟩ := hd
                      obtain ⟨ρ, hρ⟩ : ∃ ρ, a'.eval = ρ := ⟨_, rfl⟩
                      have hcst : ∀ v, ρ (.const v) = v := fun v => (congrFun hρ (.const v)).symm
                      have v9 : ρ (.tmp 99) = .slice (some ⟨bp, op, none⟩) P.length c6 := (congrFun hρ (.tmp 99)).symm.trans ((HF.out.ev 9 rfl d9).trans (HVA.out 9 _ (by rw [HVV.out]; rfl) d9))
                      have v10 : ρ (.tmp 100) = .int .i64 (q : Int) := (congrFun hρ (.tmp 100)).symm.trans ((HF.out.ev 10 rfl d10).trans (HVA.out 10 _ (by rw [HVV.out]; rfl) d10))
                      rw [if_pos (by simp [Region.wanted])]
                      unfold Oper.wp
                      rw [hρ]
                      clear hρ
                      go_simp
                      exact hK.out _ _ ⟨HVA.out.set (i := 11) (by rw [HVV.out]; rfl), hb, hp, ho, hs⟩
                    focus
                      obtain ⟨d11, _⟩ := hd
                      obtain ⟨ρ, hρ⟩ : ∃ ρ, a'.eval = ρ := ⟨_, rfl⟩
                      have hcst : ∀ v, ρ (.const v) = v := fun v => (congrFun hρ (.const v)).symm
                      have v11 : ρ (.tmp 101) = .pointer (some ⟨bp, op + q, none⟩) := (congrFun hρ (.tmp 101)).symm.trans ((HF.out.ev 11 rfl d11).trans (HVA.out 11 _ (by rw [HVV.out]; rfl) d11))
                      have k3 := HPR.out _ hb
                      rw [if_pos (by simp [Region.wanted])]
                      unfold Oper.wp
                      rw [hρ]
                      clear hρ
                      go_simp
                      exact hK.out _ _ ⟨HVA.out.set (i := 12) (by rw [HVV.out]; rfl), hb, hp, ho, hs⟩
                    focus
                      obtain ⟨d8, d12, _⟩ := hd
                      obtain ⟨ρ, hρ⟩ : ∃ ρ, a'.eval = ρ := ⟨_, rfl⟩
                      have hcst : ∀ v, ρ (.const v) = v := fun v => (congrFun hρ (.const v)).symm
                      have v8 : ρ (.tmp 98) = .slice ai (lotAt f.lots k).ins.length ci := (congrFun hρ (.tmp 98)).symm.trans ((HF.out.ev 8 rfl d8).trans (HVA.out 8 _ (by rw [HVV.out]; rfl) d8))
                      have v12 : ρ (.tmp 102) = .slice ar (rowAt P q).length cr := (congrFun hρ (.tmp 102)).symm.trans ((HF.out.ev 12 rfl d12).trans (HVA.out 12 _ (by rw [HVV.out]; rfl) d12))
                      rw [if_pos (by simp [Region.wanted])]
                      unfold Oper.wp
                      rw [hρ]
                      clear hρ
                      go_simp
                      exact hK.out _ _ ⟨HVA.out.set (i := 13) (by rw [HVV.out]; rfl), hb, hp, ho, hs⟩
                    focus
                      obtain ⟨d1, d2, d0, _, _, d3, d4, d5, d6, d7, d8, d9, d10, d11, d12, d13, _⟩ := hd
                      obtain ⟨ρ, hρ⟩ : ∃ ρ, a'.eval = ρ := ⟨_, rfl⟩
                      have hcst : ∀ v, ρ (.const v) = v := fun v => (congrFun hρ (.const v)).symm
                      have v1 : ρ (.tmp 91) = .slice (some ⟨g, 0, none⟩) f.lots.length c5 := (congrFun hρ (.tmp 91)).symm.trans ((HF.out.ev 1 rfl d1).trans (HVA.out 1 _ (by rw [HVV.out]; rfl) d1))
                      have v2 : ρ (.tmp 92) = .int .i64 (k : Int) := (congrFun hρ (.tmp 92)).symm.trans ((HF.out.ev 2 rfl d2).trans (HVA.out 2 _ (by rw [HVV.out]; rfl) d2))
                      rw [if_pos (by simp [Region.wanted])]
                      unfold Oper.wp
                      rw [hρ]
                      clear hρ
                      go_simp
                      exact hK.out _ _ ⟨HVA.out.set (i := 14) (by rw [HVV.out]; rfl), hb, hp, ho, hs⟩
                    focus
                      obtain ⟨d14, d13, d0, d1, d2, d3, d4, d5, d6, d7, d8, d9, d10, d11, d12, _, _⟩ := hd
                      obtain ⟨ρ, hρ⟩ : ∃ ρ, a'.eval = ρ := ⟨_, rfl⟩
                      have hcst : ∀ v, ρ (.const v) = v := fun v => (congrFun hρ (.const v)).symm
                      have v14 : ρ (.tmp 104) = .pointer (some ⟨g, k * 3, none⟩) := (congrFun hρ (.tmp 104)).symm.trans ((HF.out.ev 14 rfl d14).trans (HVA.out 14 _ (by rw [HVV.out]; rfl) d14))
                      have v13 : ρ (.tmp 103) = .agg #[.slice ai (lotAt f.lots k).ins.length ci, .bool true, .slice ar (rowAt P q).length cr] := (congrFun hρ (.tmp 103)).symm.trans ((HF.out.ev 13 rfl d13).trans (HVA.out 13 _ (by rw [HVV.out]; rfl) d13))
                      rw [if_pos (by simp [Region.wanted])]
                      unfold Oper.wp
                      rw [hρ]
                      clear hρ
                      have ho' := ho HLI.out
                      obtain ⟨ui, uk, up, m0, m1, m2, _, hfr⟩ := ho'.cells3 rfl hklt
                      have g0 := hfr (k * 3)
                      have g1 := hfr (k * 3 + 1)
                      have g2 := hfr (k * 3 + 2)
                      have HN := Lib.hid (ho'.apart rfl (by omega) hp)
                      have HST := Lib.hid (ho'.store (k := k) (x := ⟨(lotAt f.lots k).ins, true, rowAt P q⟩) (vi := (.slice ai (lotAt f.lots k).ins.length ci)) (vk := (.bool true)) (vp := (.slice ar (rowAt P q).length cr)) rfl hklt (HIX.out _ hb))
                      have HBB := Lib.hid hb
                      have HPP := Lib.hid hp
                      clear ho hs hp hb ho' hfr
                      go_simp
                      exact hK.out undef _ ⟨HVA.out.free (i := 15) (by rw [HVV.out]; rfl) _, ((HBB.out.setCell (p := ⟨g, k * 3, none⟩) HGB.out _).setCell (p := ⟨g, k * 3 + 1, none⟩) HGB.out _).setCell (p := ⟨g, k * 3 + 2, none⟩) HGB.out _,
                        ((HPP.out.grown (grown_setCell _ ⟨g, k * 3, none⟩ _) (fun e => HN.out (by simpa using e))).grown (grown_setCell _ ⟨g, k * 3 + 1, none⟩ _) (fun e => HN.out (by simpa using e))).grown (grown_setCell _ ⟨g, k * 3 + 2, none⟩ _) (fun e => HN.out (by simpa using e)),
                        (fun h => by cases h), (fun _ => HST.out)⟩
                  focus
                    intro L w' xs hL hJ
                    obtain ⟨hv, hb, hp, ho, hs⟩ := hJ
                    have e0 : xs 0 = .pointer (some ⟨p, 1, none⟩) := hv 0 _ (by rw [HVV.out]; rfl) (hL 0 (by decide))
                    have e1 : xs 1 = .slice (some ⟨g, 0, none⟩) f.lots.length c5 := hv 1 _ (by rw [HVV.out]; rfl) (hL 1 (by decide))
                    have e2 : xs 2 = .int .i64 (k : Int) := hv 2 _ (by rw [HVV.out]; rfl) (hL 2 (by decide))
                    have e3 : xs 3 = .pointer (some ⟨w.heap.size, 1, none⟩) := hv 3 _ (by rw [HVV.out]; rfl) (hL 3 (by decide))
                    have e4 : xs 4 = .slice (some ⟨b, off, none⟩) f.lots.length cap := hv 4 _ (by rw [HVV.out]; rfl) (hL 4 (by decide))
                    have e5 : xs 5 = .int .i64 (k : Int) := hv 5 _ (by rw [HVV.out]; rfl) (hL 5 (by decide))
                    have e6 : xs 6 = .pointer (some ⟨b, off + k * 3, none⟩) := hv 6 _ (by rw [HVV.out]; rfl) (hL 6 (by decide))
                    have e7 : xs 7 = .pointer (some ⟨b, off + k * 3, none⟩) := hv 7 _ (by rw [HVV.out]; rfl) (hL 7 (by decide))
                    have e8 : xs 8 = .slice ai (lotAt f.lots k).ins.length ci := hv 8 _ (by rw [HVV.out]; rfl) (hL 8 (by decide))
                    have e9 : xs 9 = .slice (some ⟨bp, op, none⟩) P.length c6 := hv 9 _ (by rw [HVV.out]; rfl) (hL 9 (by decide))
                    have e10 : xs 10 = .int .i64 (q : Int) := hv 10 _ (by rw [HVV.out]; rfl) (hL 10 (by decide))
                    have e11 : xs 11 = .pointer (some ⟨bp, op + q, none⟩) := hv 11 _ (by rw [HVV.out]; rfl) (hL 11 (by decide))
                    have e12 : xs 12 = .slice ar (rowAt P q).length cr := hv 12 _ (by rw [HVV.out]; rfl) (hL 12 (by decide))
                    have e13 : xs 13 = .agg #[.slice ai (lotAt f.lots k).ins.length ci, .bool true, .slice ar (rowAt P q).length cr] := hv 13 _ (by rw [HVV.out]; rfl) (hL 13 (by decide))
                    have e14 : xs 14 = .pointer (some ⟨g, k * 3, none⟩) := hv 14 _ (by rw [HVV.out]; rfl) (hL 14 (by decide))
                    simp only [putGo, Act.put, List.setIfInBounds_toArray, List.set_cons_zero, List.set_cons_succ, e0, e1, e2, e3, e4, e5, e6, e7, e8, e9, e10, e11, e12, e13, e14]
                    clear hv e0 e1 e2 e3 e4 e5 e6 e7 e8 e9 e10 e11 e12 e13 e14
                    have hO := hs (hL 15 (by decide))
                    clear ho hs hL
                    obtain ⟨W8, hW8⟩ : ∃ W, W = w' := ⟨_, rfl⟩
                    rw [← hW8] at hb hp hO ⊢
                    clear hW8
                    obtain ⟨v0, hv0⟩ : ∃ v, v = u11 := ⟨_, rfl⟩
                    rw [← hv0] at HO ⊢
                    clear hv0
                    obtain ⟨G, hG⟩ : ∃ G, G = setK f k (rowAt P q) := ⟨_, rfl⟩
                    have hcG : checkE G = 0 := by rw [hG]; exact set_check hk1 (HPP.out _ (row_mem hlt)) HCK.out
                    have hsG : G.senders = f.senders := by rw [hG]; rfl
                    have heG := allE_few hcG (by rw [hsG]; exact H5.out)
                    have HEG := Lib.hid heG
                    have HRG : Hid (allR G = asgL G) := Lib.hid (by unfold allR; rw [if_pos heG])
                    have hMl : (asgL G).length ≤ 5040 := by
                      obtain ⟨h0, _, _, _, hl⟩ := checkE_ok hcG
                      exact asg_few h0 (by rw [hsG]; exact H5.out) hl
                    have hFl : (asgL f).length ≤ 5040 := by
                      obtain ⟨h0, _, _, _, hl⟩ := checkE_ok HCK.out
                      exact asg_few h0 H5.out hl
                    have HAC : Hid (accP f k P (q + 1) = accI (accP f k P q) (asgL G) (asgL G).length) := Lib.hid (by rw [hG]; rfl)
                    have HSI : Hid (∀ i, i ≤ (asgL G).length → SrtL (accI (accP f k P q) (asgL G) i) ∧ ∀ a ∈ accI (accP f k P q) (asgL G) i, a.length = f.senders.toNat) := Lib.hid fun i hi => by
                      obtain ⟨s1, s2⟩ := srt_accP (f := f) (k := k) (P := P) q
                      exact srt_accI s1 s2 (fun a ha => by rw [asg_len (f := G) _ a ha, hsG]) i hi
                    have HBI : Hid (∀ i, i ≤ (asgL G).length → (accI (accP f k P q) (asgL G) i).length ≤ 100000000) := Lib.hid fun i hi => by
                      have h1 := nodup_lenG (srt_nodup (HSI.out i hi).1) (m := asgL f) (fun y hy => HSB.out q i y hlt (by rw [← hG]; exact hi) (by rw [← hG]; exact hy))
                      omega
                    have HRL : Hid (∀ i, i < (asgL G).length → (rowAt (asgL G) i).length = f.senders.toNat) := Lib.hid fun i hi => (show (rowAt (asgL G) i).length = G.senders.toNat from asg_len (f := G) _ _ (row_mem hi)).trans (by rw [hsG])
                    have HGF : Hid (IsFlow W8.heap.size W8 (.int .i64 f.senders) (.slice (some ⟨g, 0, none⟩) f.lots.length c5) G) := Lib.hid (by rw [hG]; exact ⟨rfl, ⟨hs1, hs2⟩, hO.isLots hb.size⟩)
                    have HVB : Hid (∀ x, v0.ownBlock = some x → w6.heap.size ≤ x ∧ x < W6.heap.size) := Lib.hid (by obtain ⟨_, _, _, h⟩ := HO.out.form; exact h)
                    have m0 := hp.cell 0
                    have m1 := hp.cell 1
                    simp at m0 m1
                    have HB8 := Lib.hid hb
                    have HQ := Lib.hid hlt
                    clear hG hcG hsG heG hO hb hp hFl
                    obtain ⟨A, hA⟩ : ∃ A, accP f k P q = A := ⟨_, rfl⟩
                    rw [hA] at HO HAC HSI HBI
                    clear hA
                    go_wp2_with fail
                    refine (all27_any W8.heap.size W8 _ _ G HGF.out (Nat.le_refl _)).mono ?_
                    rintro e w9 ⟨v9, rfl, ho9, hb9⟩
                    rw [HEG.out]
                    rw [HRG.out] at ho9
                    have HM9 := Lib.hid ho9
                    have HB9 : Hid (Below W6.heap.size W6 w9) := Lib.hid (HB8.out.trans (hb9.mono HB8.out.size))
                    have HO9 := Lib.hid (HO.out.below HB9.out)
                    have HS8 := Lib.hid hb9.size
                    obtain ⟨M, hM⟩ : ∃ M, asgL G = M := ⟨_, rfl⟩
                    rw [hM] at ho9 HM9 HAC HSI HBI HRL hMl
                    obtain ⟨am, cm, rfl, _⟩ := ho9.form
                    have hM5 : decide ((5040 : Int) < (M.length : Int)) = false := decide_eq_false (by omega)
                    clear hM ho9 hb9 m0 m1
                    go_wp2
                    go_loopw [11, 16] (fun v i W => ∃ j : Nat, j ≤ M.length ∧ i = .int .i64 j ∧ OwnMat w6.heap.size W v (accI A M j) ∧ w9.grownBy W v0.ownBlock ∧ (v.ownBlock = v0.ownBlock ∨ ∃ z, v.ownBlock = some z ∧ w9.heap.size ≤ z)) (fun _ i _ => M.length - (intOf i).toNat)
                    case atStart => exact ⟨0, by omega, rfl, HO9.out, grown_refl _ _, .inl rfl⟩
                    case round =>
                      obtain ⟨j, hj, rfl, hno, hgr, hat⟩ := hrel
                      have HOJ := Lib.hid hno
                      have HGJ := Lib.hid hgr
                      have HAT := Lib.hid hat
                      clear hno hgr hat
                      by_cases hlj : j < M.length
                      · obtain ⟨g9, c9', e9, hg91, hg92, _⟩ := HM9.out.addr (by omega)
                        obtain ⟨rfl, rfl⟩ : am = some ⟨g9, 0, none⟩ ∧ cm = c9' := by simpa using e9
                        obtain ⟨r, hr1, hr2⟩ := HM9.out.rowsO rfl j hlj
                        have hW68 : W6.heap.size ≤ W8.heap.size := HB8.out.size
                        have hc1 := (grown_cell HGJ.out (j := j) hg92 (fun e => by have := HVB.out _ e; omega)).trans hr1
                        have HRO : Hid (OwnInts w6.heap.size wr r (rowAt M j)) := Lib.hid ((hr2.kept HGJ.out (by
                          cases hrb : r.ownBlock with
                          | none => exact .inl rfl
                          | some x =>
                            right
                            intro e
                            have h1 := (hr2.1.lt x hrb).1
                            have h2 := HVB.out x e.symm
                            omega)).mono (by have := HBR.out.size; omega))
                        obtain ⟨ar2, cr2, rfl, _⟩ := hr2.form
                        have HZ : Hid (w6.heap.size ≤ wr.heap.size) := Lib.hid (by have := HBR.out.size; have := HGJ.out.size; have := HB9.out.size; omega)
                        have HPT := Lib.hid (put_any w6.heap.size wr u11 _ (accI A M j) (rowAt M j) HOJ.out HRO.out HZ.out (HSI.out j hj).1 (fun a ha => by rw [(HSI.out j hj).2 a ha, HRL.out j hlj]) (HBI.out j hj))
                        obtain ⟨au1, cu1, rfl, _⟩ := HOJ.out.form
                        clear hr1 hr2 e9
                        go_wp2_with fail
                        refine HPT.out.mono ?_
                        rintro e w10 ⟨v10, rfl, ho10, hg10, hat10⟩
                        have HO10 := Lib.hid ho10
                        have HG10 := Lib.hid hg10
                        have HAT10 := Lib.hid hat10
                        clear ho10 hg10 hat10
                        go_wp2
                        go_roundw
                        case rel =>
                          refine ⟨j + 1, by omega, by go_num, HO10.out, grown_transX HGJ.out HG10.out HAT.out, ?_⟩
                          rcases HAT10.out with e | ⟨z, e, hz⟩
                          · rcases HAT.out with e2 | ⟨z, e2, hz⟩
                            · exact .inl (e.trans e2)
                            · exact .inr ⟨z, e.trans e2, hz⟩
                          · exact .inr ⟨z, e, by have := HGJ.out.size; omega⟩
                        case measure => simp [intOf]; omega
                      · obtain rfl : j = M.length := by omega
                        go_wp2
                        go_roundw
                        case rel =>
                          refine ⟨q + 1, by have := HQ.out; omega, by go_num, by rw [HAC.out]; exact HOJ.out, ?_⟩
                          have h9 : Below w6.heap.size w6 w9 := HBR.out.trans (HB9.out.mono HBR.out.size)
                          exact h9.grown HGJ.out h9.size (fun z hz => (HVB.out z hz).1)
                        case measure => have := HQ.out; simp [intOf]; omega
              · obtain rfl : q = P.length := by omega
                have HIW := Lib.hid (HI6.out.below HBR.out (Nat.le_refl _))
                have HOM := Lib.hid HO.out.isMat
                obtain ⟨a9, c9, e9, _⟩ := HO.out.form
                rw [HPF.out] at HOM e9
                subst e9
                go_wp2_with fail
                refine (sameM_any _ _ _ _ _ _ _ HOM.out HIW.out).mono ?_
                rintro e w9 ⟨rfl, hd9⟩
                have HD9 := Lib.hid hd9
                clear hd9
                rw [show sameM (asgL f) (asgL f) = true from decide_eq_true rfl]
                go_wp2
                go_ret
                exact ⟨rfl, HW7.out.trans ((HD9.out.below _).mono HW7.out.size)⟩
    · have HRR : Hid (allR f = []) := Lib.hid (by unfold allR; rw [if_neg hall])
      have hall1 : (allE f != 0) = true := by simpa using hall
      rw [HRR.out] at ho3
      obtain ⟨a3, c3, rfl, _⟩ := ho3.form
      clear hall ho3
      obtain ⟨z3, r3⟩ := HX3.out
      go_wp2
      go_ret
      exact ⟨rfl, HW3.out⟩

end Go.Proofs.Ythekefnocphcdaa

set_option linter.unusedVariables false

set_option linter.unusedSimpArgs false

namespace Go.Proofs.Ythekefnocphcdaa

open Go.RowKit Go.MapKept

theorem findDel_ints : ∀ (es : List MapEntry) (l : AL) (i : Nat) (x : Int), es.map (fun e => (e.key, e.val)) = l.map (fun p => (Value.int .i64 p.1, p.2)) →
    (adel l x = l ∧ Instr.findNow (.int .i64) (.int .i64 x) es i = some none) ∨
    ∃ j v, Instr.findNow (.int .i64) (.int .i64 x) es i = some (some (i + j, v)) ∧ j < es.length ∧ (es.eraseIdx j).map (fun e => (e.key, e.val)) = (adel l x).map (fun p => (Value.int .i64 p.1, p.2))
  | [], [], i, x, _ => Or.inl ⟨rfl, rfl⟩
  | [], p :: l, i, x, h => by simp at h
  | e :: es, [], i, x, h => by simp at h
  | e :: es, (k, v) :: l, i, x, h => by
    simp only [List.map_cons, List.cons.injEq, Prod.mk.injEq] at h
    obtain ⟨⟨hk, hv⟩, ht⟩ := h
    by_cases hx : k = x
    · subst hx
      refine Or.inr ⟨0, v, ?_, by simp, ?_⟩
      · simp [Instr.findNow, Instr.sameNow, hk, hv]
      · simp [adel, ht]
    · have hsame : Instr.sameNow (.int .i64) (.int .i64 x) e.key = some false := by
        rw [hk]; simp [Instr.sameNow]; intro h'; exact hx h'.symm
      rcases findDel_ints es l (i + 1) x ht with ⟨h1, h2⟩ | ⟨j, u, h2, h3, h4⟩
      · exact Or.inl ⟨by simp only [adel]; rw [if_neg hx, h1], by simp [Instr.findNow, hsame, h2]⟩
      · refine Or.inr ⟨j + 1, u, by simp [Instr.findNow, hsame, h2]; omega, by simpa using h3, ?_⟩
        simp only [List.eraseIdx_cons_succ, List.map_cons, h4, adel, if_neg hx, hk, hv]

section

variable {P : Program} {w : World} {T K : TypeId} {E : TypeId} {r : Nat} {l : AL}

theorem run_delete_ints (hT : P.underlying T = some (.map K E)) (hK : P.underlying K = some (.int .i64)) (h : IntMap w r l) (x : Int) (ty : TypeId) :
    ∃ w', (Builtin.delete_ #[T, K] ty #[.map (some r), .int .i64 x]).run P w = .ok (.tuple #[]) w' ∧ IntMap w' r (adel l x) ∧ w.grownBy w' (some r) ∧ w'.heap.size = w.heap.size := by
  obtain ⟨es, c, h1, h2, h3⟩ := h
  have hk : IsKey (.int .i64) (.int .i64 x) := rfl
  have hck : (Instr.checkKey es.isEmpty 10000 K (.int .i64 x)).run P w = .ok () w := run_checkKey hK hk es.isEmpty 9999
  have hg : (getObj r).run P w = .ok (.map es c) w := MapKept.run_getObj_map h1
  have keep : ∀ o : Obj, w.grownBy { w with heap := w.heap.setIfInBounds r o } (some r) := fun o =>
    ⟨rfl, rfl, rfl, by simp, fun k hk' hne => by simp only [Array.getElem?_setIfInBounds]; rw [if_neg (fun e => hne (by rw [e]))]⟩
  unfold Builtin.delete_
  rcases findDel_ints es.toList l 0 x h3 with ⟨q1, q2⟩ | ⟨j, u, q2, q3, q4⟩
  · have hf := run_findKey (P := P) (w := w) hK q2
    have hset := run_setObj_map (P := P) (.map es c) h1
    refine ⟨_, by simp [run_underlying hT, Result.andThen, hg, hck, hf, hset], ⟨_, _, (heap_set h1).1, h2, by rw [q1]; exact h3⟩, keep _, by simp⟩
  · have hf := run_findKey (P := P) (w := w) hK q2
    simp only [Nat.zero_add] at hf
    have hset := run_setObj_map (P := P) (.map (es.eraseIdxIfInBounds j) c) h1
    refine ⟨_, by simp [run_underlying hT, Result.andThen, hg, hck, hf, hset]; rfl, ⟨_, _, (heap_set h1).1, stamped_erase h2 _, ?_⟩, keep _, by simp⟩
    have e : (es.eraseIdxIfInBounds j).toList = es.toList.eraseIdx j := by
      unfold Array.eraseIdxIfInBounds
      rw [dif_pos (by simpa using q3)]
      simp
    rw [e]
    exact q4

/-- the operation delete(m, x) -/
theorem wpList_delete_ints {ops : Array Oper} {rest : List Oper} {o : Oper} {a : Act} {Q : Exit → Act → World → Prop} (hg : Region.wanted o (yielded ops a.tmps) = true) (m xo : Operand)
    (hop : o.op = Op.call { callee := Callee.builtin Builtin.delete, args := #[m, xo], argTypes := #[T, K] })
    (hT : P.underlying T = some (.map K E)) (hK : P.underlying K = some (.int .i64)) (hm : a.eval m = .map (some r)) (h : IntMap w r l) {x : Int} (hx : a.eval xo = .int .i64 x)
    (hk : ∀ w', IntMap w' r (adel l x) → w.grownBy w' (some r) → w'.heap.size = w.heap.size → wpList P ops Q rest (a.put o.dst (.tuple #[])) w') : wpList P ops Q (o :: rest) a w := by
  refine wpList_want hg fun K' hK' => ?_
  obtain ⟨w', hrun, h1, h2, h3⟩ := run_delete_ints hT hK h x o.type
  unfold Oper.wp
  simp [execOp, hop, resolve, invoke, builtin, hm, hx, hrun, Result.andThen]
  exact hK' _ _ (hk w' h1 h2 h3)

/-- the operations of a region, one at a time -/
theorem wp_lookup_ints {o : Oper} {a : Act} {K' : Act → World → Prop} {Q : Exit → Act → World → Prop} (m xo : Operand) (hop : o.op = Op.lookup T m xo false)
    (hT : P.underlying T = some (.map K E)) (hK : P.underlying K = some (.int .i64)) {z : Value} (hz : (zeroValue E).run P w = .ok z w) (hm : a.eval m = .map (some r)) (h : IntMap w r l) {x : Int} (hx : a.eval xo = .int .i64 x) {v : Value} (hv : alook l x = some v)
    (hk : K' (a.put o.dst v) w) : o.wp P a w K' Q := by
  unfold Oper.wp
  simp only [execOp, hop, hm, hx]
  simp [run_lookup_ints hT hK hz h x false, Result.andThen, hv]
  exact hk

theorem wp_update_ints {o : Oper} {a : Act} {K' : Act → World → Prop} {Q : Exit → Act → World → Prop} (m xo vo : Operand) (hop : o.op = Op.mapUpdate T m xo vo)
    (hT : P.underlying T = some (.map K E)) (hK : P.underlying K = some (.int .i64)) (hm : a.eval m = .map (some r)) (h : IntMap w r l) {x : Int} {v : Value} (hx : a.eval xo = .int .i64 x) (hv : a.eval vo = v)
    (hk : ∀ w', IntMap w' r (aset l x v) → w.grownBy w' (some r) → w'.heap.size = w.heap.size → K' (a.put o.dst undef) w') : o.wp P a w K' Q := by
  obtain ⟨w', hrun, h1, h2, h3⟩ := run_update_ints hT hK h x v
  unfold Oper.wp
  simp only [execOp, hop, hm, hx, hv]
  simp [hrun, Result.andThen]
  exact hk w' h1 h2 h3

theorem wpList_next_moreA {ops : Array Oper} {rest : List Oper} {o : Oper} {a : Act} {Q : Exit → Act → World → Prop} {bm r : Nat} {l left : AL} (hg : Region.wanted o (yielded ops a.tmps) = true) (it : Operand) (hop : o.op = Op.next it false) (hit : a.eval it = .pointer (some ⟨r, 0, none⟩)) (h : MapIter w bm r l left) (hne : r ≠ bm) (he : left ≠ [])
    (hk : ∀ (A : AL) (x : Int) (v : Value) (B : AL) (w' : World), left = A ++ (x, v) :: B → MapIter w' bm r l (A ++ B) → w.grownBy w' (some r) → w'.heap.size = w.heap.size →
      (Instr.entry (.pointer (some ⟨r, 0, none⟩))).run P w' = .ok (.tuple #[.int .i64 x, v]) w' → wpList P ops Q rest (a.put o.dst (.tuple #[.bool true, .int .i64 x, v])) w') : wpList P ops Q (o :: rest) a w :=
  wpList_next_ints hg it hop hit h hne (fun e => absurd e he) hk

theorem wpList_next_doneA {ops : Array Oper} {rest : List Oper} {o : Oper} {a : Act} {Q : Exit → Act → World → Prop} {bm r : Nat} {l left : AL} (hg : Region.wanted o (yielded ops a.tmps) = true) (it : Operand) (hop : o.op = Op.next it false) (hit : a.eval it = .pointer (some ⟨r, 0, none⟩)) (h : MapIter w bm r l left) (hne : r ≠ bm) (he : left = [])
    (hk : wpList P ops Q rest (a.put o.dst (.tuple #[.bool false])) w) : wpList P ops Q (o :: rest) a w :=
  wpList_next_ints hg it hop hit h hne (fun _ => hk) (fun A x v B w' e => by rw [he] at e; simp at e)

end

theorem aset_fresh {l : AL} {x : Int} (h : x ∉ l.map (·.1)) (v : Value) : aset l x v = l ++ [(x, v)] := by
  induction l with
  | nil => rfl
  | cons p r ih =>
    obtain ⟨k, u⟩ := p
    simp only [List.map_cons, List.mem_cons, not_or] at h
    simp only [aset]
    rw [if_neg (fun e => h.1 e.symm), ih h.2]
    rfl

theorem mem_adel {l : AL} (hn : (l.map (·.1)).Nodup) {x y : Int} {v : Value} : (y, v) ∈ adel l x ↔ (y, v) ∈ l ∧ y ≠ x := by
  induction l with
  | nil => simp [adel]
  | cons p r ih =>
    obtain ⟨k, u⟩ := p
    simp only [List.map_cons, List.nodup_cons] at hn
    simp only [adel]
    by_cases hk : k = x
    · subst hk
      rw [if_pos rfl]
      constructor
      · intro h
        exact ⟨List.mem_cons_of_mem _ h, fun e => hn.1 (by rw [← e]; exact List.mem_map.2 ⟨_, h, rfl⟩)⟩
      · rintro ⟨h, hne⟩
        rcases List.mem_cons.1 h with e | h
        · simp only [Prod.mk.injEq] at e; exact absurd e.1 hne
        · exact h
    · rw [if_neg hk, List.mem_cons, List.mem_cons, ih hn.2]
      constructor
      · rintro (e | ⟨h, hne⟩)
        · simp only [Prod.mk.injEq] at e; exact ⟨.inl (by rw [e.1, e.2]), by rw [e.1]; exact hk⟩
        · exact ⟨.inr h, hne⟩
      · rintro ⟨e | h, hne⟩
        · exact .inl e
        · exact .inr ⟨h, hne⟩

theorem nodup_adel {l : AL} (hn : (l.map (·.1)).Nodup) (x : Int) : ((adel l x).map (·.1)).Nodup := by
  have hs : (adel l x).Sublist l := by
    clear hn
    induction l with
    | nil => exact List.Sublist.refl _
    | cons p r ih =>
      obtain ⟨k, u⟩ := p
      simp only [adel]
      by_cases hk : k = x
      · rw [if_pos hk]; exact List.sublist_cons_self _ _
      · rw [if_neg hk]; exact List.Sublist.cons_cons _ ih
  exact List.Nodup.sublist (hs.map _) hn

theorem alook_mem {l : AL} (hn : (l.map (·.1)).Nodup) {x : Int} {v : Value} (h : (x, v) ∈ l) : alook l x = some v := by
  induction l with
  | nil => cases h
  | cons p r ih =>
    obtain ⟨k, u⟩ := p
    simp only [List.map_cons, List.nodup_cons] at hn
    simp only [alook]
    rcases List.mem_cons.1 h with e | h
    · simp only [Prod.mk.injEq] at e
      rw [if_pos e.1.symm, e.2]
    · rw [if_neg (fun e => hn.1 (by rw [e]; exact List.mem_map.2 ⟨_, h, rfl⟩))]
      exact ih hn.2 h

/-- the map l holds just the senders below n, each one at its spot -/
def Sat (n : Nat) (P : Nat → Int) (l : AL) : Prop := (l.map (·.1)).Nodup ∧ ∀ x v, (x, v) ∈ l ↔ ∃ s, s < n ∧ P s = x ∧ v = .int .i64 (s : Int)

theorem Sat.nil (P : Nat → Int) : Sat 0 P [] := ⟨List.nodup_nil, fun x v => by simp⟩

theorem Sat.eq {n : Nat} {P P' : Nat → Int} {l : AL} (h : Sat n P l) (he : ∀ s, s < n → P s = P' s) : Sat n P' l :=
  ⟨h.1, fun x v => by rw [h.2]; exact ⟨fun ⟨s, a, b, c⟩ => ⟨s, a, by rw [← he s a]; exact b, c⟩, fun ⟨s, a, b, c⟩ => ⟨s, a, by rw [he s a]; exact b, c⟩⟩⟩

theorem Sat.key {n : Nat} {P : Nat → Int} {l : AL} (h : Sat n P l) {x : Int} : x ∈ l.map (·.1) ↔ ∃ s, s < n ∧ P s = x := by
  constructor
  · intro hx
    obtain ⟨⟨y, v⟩, hm, rfl⟩ := List.mem_map.1 hx
    obtain ⟨s, a, b, _⟩ := (h.2 _ _).1 hm
    exact ⟨s, a, b⟩
  · rintro ⟨s, a, b⟩
    exact List.mem_map.2 ⟨_, (h.2 x _).2 ⟨s, a, b, rfl⟩, rfl⟩

theorem Sat.look {n : Nat} {P : Nat → Int} {l : AL} (h : Sat n P l) {s : Nat} (hs : s < n) : alook l (P s) = some (.int .i64 (s : Int)) := alook_mem h.1 ((h.2 _ _).2 ⟨s, hs, rfl, rfl⟩)

theorem Sat.inj {n : Nat} {P : Nat → Int} {l : AL} (h : Sat n P l) {s t : Nat} (hs : s < n) (ht : t < n) (e : P s = P t) : s = t := by
  have h1 := h.look hs
  rw [e, h.look ht] at h1
  simp at h1
  omega

theorem Sat.more {n : Nat} {P : Nat → Int} {l : AL} (h : Sat n P l) (hf : ∀ s, s < n → P s ≠ P n) : Sat (n + 1) P (aset l (P n) (.int .i64 (n : Int))) := by
  have hx : P n ∉ l.map (·.1) := fun hx => by obtain ⟨s, a, b⟩ := h.key.1 hx; exact hf s a b
  refine ⟨nodup_aset h.1 _ _, fun x v => ?_⟩
  rw [aset_fresh hx, List.mem_append, h.2]
  constructor
  · rintro (⟨s, a, b, c⟩ | e)
    · exact ⟨s, by omega, b, c⟩
    · have := List.mem_singleton.1 e
      simp only [Prod.mk.injEq] at this
      exact ⟨n, by omega, this.1.symm, this.2⟩
  · rintro ⟨s, a, b, c⟩
    by_cases e : s = n
    · subst e; exact .inr (by simp [b, c])
    · exact .inl ⟨s, by omega, b, c⟩

theorem Sat.move {n : Nat} {P P' : Nat → Int} {l : AL} {t : Nat} {y : Int} (h : Sat n P l) (ht : t < n) (hy : ∀ s, s < n → P s ≠ y) (hp : ∀ s, s < n → P' s = if s = t then y else P s) :
    Sat n P' (adel (aset l y (.int .i64 (t : Int))) (P t)) := by
  have hx : y ∉ l.map (·.1) := fun hx => by obtain ⟨s, a, b⟩ := h.key.1 hx; exact hy s a b
  have hn := nodup_aset h.1 y (.int .i64 (t : Int))
  refine ⟨nodup_adel hn _, fun x v => ?_⟩
  rw [mem_adel hn, aset_fresh hx, List.mem_append, h.2]
  constructor
  · rintro ⟨⟨s, a, b, c⟩ | e, hne⟩
    · have hst : s ≠ t := fun e => hne (by rw [← b, e])
      exact ⟨s, a, by rw [hp s a, if_neg hst]; exact b, c⟩
    · have := List.mem_singleton.1 e
      simp only [Prod.mk.injEq] at this
      exact ⟨t, ht, by rw [hp t ht, if_pos rfl]; exact this.1.symm, this.2⟩
  · rintro ⟨s, a, b, c⟩
    rw [hp s a] at b
    by_cases e : s = t
    · subst e
      rw [if_pos rfl] at b
      subst b
      exact ⟨.inr (by simp [c]), fun e => hy s ht e.symm⟩
    · rw [if_neg e] at b
      exact ⟨.inl ⟨s, a, b, c⟩, fun e' => e (h.inj a ht (by rw [b, e']))⟩

end Go.Proofs.Ythekefnocphcdaa

set_option linter.unusedVariables false

set_option linter.unusedSimpArgs false

namespace Go.Proofs.Ythekefnocphcdaa

/-- behind the first i spots of lot k -/
def inLot (f : Flow) (k i s : Nat) : Int := mvI ((lotAt f.lots k).ins.take i) (lotAt f.lots k).perm (beforeI f k) (spotAt f (s : Int) k)

theorem inLot_zero (f : Flow) (k s : Nat) : inLot f k 0 s = spotAt f (s : Int) k := by unfold inLot mvI hasB; simp

theorem inLot_end (f : Flow) (k s : Nat) : inLot f k (lotAt f.lots k).ins.length s = spotAt f (s : Int) (k + 1) := by unfold inLot; rw [List.take_length]; rfl

theorem spot_asg {f : Flow} (h0 : 0 ≤ f.senders) {k : Nat} (hl : lotsB f k = true) (hk : ∀ j, j < k → (lotAt f.lots j).known = true) : ∃ p, p.length = f.senders.toNat ∧ AllAt f k p ∧ ∀ s : Nat, s < f.senders.toNat → nth p s = spotAt f (s : Int) k := by
  obtain ⟨p, hp⟩ := List.exists_mem_of_ne_nil _ (asg_ne h0 k hl)
  refine ⟨p, asg_len k p hp, asg_all h0 k hl p hp, fun s hs => (asg_last h0 (show (s : Int) < f.senders by omega) k hl p hp).1 ?_⟩
  by_cases h : 0 ≤ unkTo f (s : Int) k
  · obtain ⟨j, a, _, c⟩ := unk_is h
    rw [hk j a] at c
    cases c
  · omega

theorem idx_take {l : List Int} (hn : l.Nodup) {i j : Nat} (hj : j < i) (hi : i ≤ l.length) : (l.take i).idxOf (nth l j) = j ∧ hasB (l.take i) (nth l j) = true := by
  have hjl : j < (l.take i).length := by rw [List.length_take]; omega
  have e : nth l j = (l.take i)[j] := by
    rw [List.getElem_take]
    exact nth_lt (by omega)
  rw [e]
  exact ⟨List.Nodup.idxOf_getElem (List.Nodup.sublist (List.take_sublist _ _) hn) j hjl, hasB_mem.2 (List.getElem_mem _)⟩

theorem take_no {l : List Int} (hn : l.Nodup) {i j : Nat} (hj : i ≤ j) (hi : j < l.length) : hasB (l.take i) (nth l j) = false := by
  cases h : hasB (l.take i) (nth l j) with
  | false => rfl
  | true =>
    obtain ⟨m, hm, e⟩ := List.mem_iff_getElem.1 (hasB_mem.1 h)
    rw [List.length_take] at hm
    rw [List.getElem_take] at e
    have e2 : nth l m = nth l j := by rw [nth_lt (by omega)]; exact e
    have := nth_injC hn (by omega) hi e2
    omega

theorem spot_before {f : Flow} {k : Nat} (h0 : 0 ≤ f.senders) (hl : lotsB f k = true) (hk : ∀ j, j < k + 1 → (lotAt f.lots j).known = true) {s : Nat} (hs : s < f.senders.toNat) : spotAt f (s : Int) k < beforeI f k := by
  obtain ⟨p, h1, h2, h3⟩ := spot_asg h0 hl (fun j hj => hk j (by omega))
  rw [← h3 s hs]
  exact ((h2.2 _).1 (nth_mem' (by omega))).2.1

theorem perm_at {f : Flow} {k : Nat} (hb : lotB f k = true) (hk : ∀ j, j < k + 1 → (lotAt f.lots j).known = true) {i : Nat} (hi : i < (lotAt f.lots k).ins.length) : 0 ≤ nth (lotAt f.lots k).perm i ∧ nth (lotAt f.lots k).perm i < (lotAt f.lots k).ins.length ∧ (lotAt f.lots k).perm.length = (lotAt f.lots k).ins.length ∧ (lotAt f.lots k).perm.Nodup := by
  obtain ⟨q1, q2, q3, q4, _⟩ := lotB_parts hb
  have hp := permB_parts (q4 (hk k (by omega)))
  have := hp.1 _ (nth_mem' (show i < (lotAt f.lots k).perm.length by omega))
  exact ⟨this.1, this.2, hp.2.1, hp.2.2⟩

section

variable {f : Flow} {k : Nat} (h0 : 0 ≤ f.senders) (hl : lotsB f k = true) (hb : lotB f k = true) (hk : ∀ j, j < k + 1 → (lotAt f.lots j).known = true)
include h0 hl hb hk

theorem inLot_at {i : Nat} (hi : i < (lotAt f.lots k).ins.length) : ∃ t, t < f.senders.toNat ∧ inLot f k i t = nth (lotAt f.lots k).ins i := by
  obtain ⟨p, h1, h2, h3⟩ := spot_asg h0 hl (fun j hj => hk j (by omega))
  obtain ⟨q1, q2, q3, _⟩ := lotB_parts hb
  obtain ⟨m, hm, e⟩ := List.mem_iff_getElem.1 ((h2.2 _).2 (q3 _ (nth_mem' hi)))
  rw [h1] at hm
  have e' : spotAt f (m : Int) k = nth (lotAt f.lots k).ins i := by rw [← h3 m hm, ← e]; exact nth_lt (by omega)
  refine ⟨m, hm, ?_⟩
  unfold inLot mvI
  rw [e', take_no q2 (Nat.le_refl _) hi, if_neg (by decide)]

/-- one letter goes on, the others stay -/
theorem inLot_step {i t : Nat} (hi : i < (lotAt f.lots k).ins.length) (ht : t < f.senders.toNat) (he : inLot f k i t = nth (lotAt f.lots k).ins i) :
    ∀ s, s < f.senders.toNat → inLot f k (i + 1) s = if s = t then beforeI f k + nth (lotAt f.lots k).perm i else inLot f k i s := by
  obtain ⟨p, h1, h2, h3⟩ := spot_asg h0 hl (fun j hj => hk j (by omega))
  obtain ⟨q1, q2, q3, q4, _⟩ := lotB_parts hb
  have hlt := (q3 _ (nth_mem' hi)).2.1
  have het : spotAt f (t : Int) k = nth (lotAt f.lots k).ins i := by
    unfold inLot mvI at he
    by_cases hh : hasB ((lotAt f.lots k).ins.take i) (spotAt f (t : Int) k) = true
    · rw [if_pos hh] at he
      obtain ⟨m, hm, e⟩ := List.mem_iff_getElem.1 (hasB_mem.1 hh)
      rw [List.length_take] at hm
      rw [List.getElem_take] at e
      have e2 : spotAt f (t : Int) k = nth (lotAt f.lots k).ins m := by rw [nth_lt (by omega)]; exact e.symm
      rw [e2, (idx_take q2 (show m < i by omega) (by omega)).1] at he
      have := (perm_at hb hk (show m < (lotAt f.lots k).ins.length by omega)).1
      omega
    · rw [if_neg hh] at he; exact he
  intro s hs
  by_cases e : s = t
  · subst e
    rw [if_pos rfl]
    unfold inLot mvI
    rw [het, (idx_take q2 (show i < i + 1 by omega) (by omega)).2, if_pos rfl, (idx_take q2 (show i < i + 1 by omega) (by omega)).1]
  · rw [if_neg e]
    have hne : spotAt f (s : Int) k ≠ nth (lotAt f.lots k).ins i := by
      rw [← het, ← h3 s hs, ← h3 t ht]
      intro e2
      exact e (nth_injC h2.1 (by omega) (by omega) e2)
    unfold inLot mvI
    by_cases hh : hasB ((lotAt f.lots k).ins.take i) (spotAt f (s : Int) k) = true
    · rw [if_pos hh]
      obtain ⟨m, hm, e⟩ := List.mem_iff_getElem.1 (hasB_mem.1 hh)
      rw [List.length_take] at hm
      rw [List.getElem_take] at e
      have e2 : spotAt f (s : Int) k = nth (lotAt f.lots k).ins m := by rw [nth_lt (by omega)]; exact e.symm
      rw [e2, (idx_take q2 (show m < i by omega) (by omega)).1, (idx_take q2 (show m < i + 1 by omega) (by omega)).2, if_pos rfl, (idx_take q2 (show m < i + 1 by omega) (by omega)).1]
    · rw [if_neg hh]
      have : ¬ hasB ((lotAt f.lots k).ins.take (i + 1)) (spotAt f (s : Int) k) = true := by
        intro hh'
        rw [List.take_succ_eq_append_getElem hi] at hh'
        rcases List.mem_append.1 (hasB_mem.1 hh') with h | h
        · exact hh (hasB_mem.2 h)
        · exact hne (by rw [nth_lt hi]; exact List.mem_singleton.1 h)
      rw [if_neg this]

theorem inLot_fresh {i s : Nat} (hi : i < (lotAt f.lots k).ins.length) (hs : s < f.senders.toNat) : inLot f k i s ≠ beforeI f k + nth (lotAt f.lots k).perm i := by
  obtain ⟨q1, q2, q3, q4, _⟩ := lotB_parts hb
  have hp := perm_at hb hk hi
  have hsb := spot_before h0 hl hk hs
  unfold inLot mvI
  by_cases hh : hasB ((lotAt f.lots k).ins.take i) (spotAt f (s : Int) k) = true
  · rw [if_pos hh]
    obtain ⟨m, hm, e⟩ := List.mem_iff_getElem.1 (hasB_mem.1 hh)
    rw [List.length_take] at hm
    rw [List.getElem_take] at e
    have e2 : spotAt f (s : Int) k = nth (lotAt f.lots k).ins m := by rw [nth_lt (by omega)]; exact e.symm
    rw [e2, (idx_take q2 (show m < i by omega) (by omega)).1]
    intro e3
    have e4 : nth (lotAt f.lots k).perm m = nth (lotAt f.lots k).perm i := by omega
    have := nth_injC hp.2.2.2 (by omega) (by omega) e4
    omega
  · rw [if_neg hh]
    omega

end

/-- the spots of the senders fit into a machine word -/
theorem mapL_at {f : Flow} {s : Nat} (hs : s < f.senders.toNat) : nth (mapL f) s = spotAt f (s : Int) f.lots.length := by
  unfold mapL nth
  rw [List.getD_eq_getElem?_getD, List.getElem?_map, List.getElem?_range hs]
  rfl

theorem mapL_len (f : Flow) : (mapL f).length = f.senders.toNat := by simp [mapL]

end Go.Proofs.Ythekefnocphcdaa

set_option linter.unusedVariables false

set_option linter.unusedSimpArgs false

namespace Go.Proofs.Ythekefnocphcdaa

/-- how many of the first k lots are unknown -/
def openN (f : Flow) : Nat → Nat
  | 0 => 0
  | k + 1 => if (lotAt f.lots k).known then openN f k else openN f k + 1

theorem openN_le (f : Flow) : ∀ k, openN f k ≤ k
  | 0 => Nat.le_refl _
  | k + 1 => by
    have := openN_le f k
    simp only [openN]
    split <;> omega

/-- which permutation is taken for lot k -/
def choN (f : Flow) (ps : List Int) (k : Nat) : Nat := if openN f k < ps.length then (ps.getD (openN f k) 0).toNat % (permsL (lotAt f.lots k).ins.length).length else 0

def choP (f : Flow) (ps : List Int) (k : Nat) : List Int := rowAt (permsL (lotAt f.lots k).ins.length) (choN f ps k)

/-- the first k lots made known -/
def fillF (f : Flow) (ps : List Int) : Nat → Flow
  | 0 => f
  | k + 1 => if (lotAt f.lots k).known then fillF f ps k else setK (fillF f ps k) k (choP f ps k)

theorem permsL_pos (n : Nat) : 0 < (permsL n).length := by rw [permsL_len]; exact facN_pos n

theorem choN_lt (f : Flow) (ps : List Int) (k : Nat) : choN f ps k < (permsL (lotAt f.lots k).ins.length).length := by
  unfold choN
  split
  · exact Nat.mod_lt _ (permsL_pos _)
  · exact permsL_pos _

theorem choP_mem (f : Flow) (ps : List Int) (k : Nat) : choP f ps k ∈ permsL (lotAt f.lots k).ins.length := row_mem (choN_lt f ps k)

theorem fill_len (f : Flow) (ps : List Int) : ∀ k, (fillF f ps k).lots.length = f.lots.length
  | 0 => rfl
  | k + 1 => by
    simp only [fillF]
    split
    · exact fill_len f ps k
    · rw [set_len]; exact fill_len f ps k

theorem fill_snd (f : Flow) (ps : List Int) : ∀ k, (fillF f ps k).senders = f.senders
  | 0 => rfl
  | k + 1 => by
    simp only [fillF]
    split
    · exact fill_snd f ps k
    · exact fill_snd f ps k

/-- the lots of the filled flow -/
theorem fill_at {f : Flow} {ps : List Int} {j : Nat} (hj : j < f.lots.length) : ∀ k, k ≤ f.lots.length → lotAt (fillF f ps k).lots j = if j < k ∧ (lotAt f.lots j).known = false then { (lotAt f.lots j) with known := true, perm := choP f ps j } else lotAt f.lots j
  | 0, _ => by rw [if_neg (by omega)]; rfl
  | k + 1, hk => by
    have ih := fill_at hj k (by omega) (ps := ps)
    have hkk := fill_at (f := f) (ps := ps) (j := k) (by omega) k (by omega)
    rw [if_neg (by omega)] at hkk
    simp only [fillF]
    cases hkn : (lotAt f.lots k).known with
    | true =>
      rw [if_pos rfl, ih]
      by_cases e : j = k
      · subst e; rw [if_neg (by omega), if_neg (by rw [hkn]; simp)]
      · by_cases h : j < k
        · by_cases h2 : (lotAt f.lots j).known = false
          · rw [if_pos ⟨h, h2⟩, if_pos ⟨by omega, h2⟩]
          · rw [if_neg (fun x => h2 x.2), if_neg (fun x => h2 x.2)]
        · rw [if_neg (by omega), if_neg (by omega)]
    | false =>
      rw [if_neg (by decide), lotAt_set (by rw [fill_len]; omega)]
      by_cases e : j = k
      · subst e; rw [if_pos rfl, if_pos ⟨by omega, hkn⟩, hkk]
      · rw [if_neg e, ih]
        by_cases h : j < k
        · by_cases h2 : (lotAt f.lots j).known = false
          · rw [if_pos ⟨h, h2⟩, if_pos ⟨by omega, h2⟩]
          · rw [if_neg (fun x => h2 x.2), if_neg (fun x => h2 x.2)]
        · rw [if_neg (by omega), if_neg (by omega)]

theorem lotAt_none {ls : List Lot} {j : Nat} (h : ls.length ≤ j) : lotAt ls j = ⟨[], false, []⟩ := by
  unfold lotAt
  rw [List.getD_eq_getElem?_getD, List.getElem?_eq_none h]
  rfl

theorem fill_like (f : Flow) (ps : List Int) {k : Nat} (hk : k ≤ f.lots.length) : Like f (fillF f ps k) := by
  refine ⟨fill_snd f ps k, fill_len f ps k, fun j => ?_⟩
  by_cases hj : j < f.lots.length
  · rw [fill_at hj k hk]
    split <;> rfl
  · rw [lotAt_none (by rw [fill_len]; omega), lotAt_none (by omega)]

theorem fill_check {f : Flow} (hc : checkE f = 0) (ps : List Int) : ∀ k, k ≤ f.lots.length → checkE (fillF f ps k) = 0
  | 0, _ => hc
  | k + 1, hk => by
    have ih := fill_check hc ps k (by omega)
    simp only [fillF]
    split
    · exact ih
    · refine set_check (by rw [fill_len]; omega) ?_ ih
      rw [(fill_like f ps (by omega : k ≤ f.lots.length)).ins]
      exact mem_permsL.1 (choP_mem f ps k)

theorem fill_known (f : Flow) (ps : List Int) : ∀ j, j < (fillF f ps f.lots.length).lots.length → (lotAt (fillF f ps f.lots.length).lots j).known = true := fun j hj => by
  rw [fill_len] at hj
  rw [fill_at hj _ (Nat.le_refl _)]
  split
  · rfl
  · rename_i h
    cases hk : (lotAt f.lots j).known with
    | true => rfl
    | false => exact absurd ⟨hj, hk⟩ h

theorem fill_perms {f : Flow} (ps : List Int) {j : Nat} (hj : j < f.lots.length) : ∀ π ∈ permsOf (lotAt (fillF f ps f.lots.length).lots j), π ∈ permsOf (lotAt f.lots j) := by
  rw [fill_at hj _ (Nat.le_refl _)]
  split
  · rename_i h
    intro π hπ
    have : π = choP f ps j := by simpa [permsOf] using hπ
    rw [this]
    unfold permsOf
    rw [h.2]
    exact choP_mem f ps j
  · exact fun π h => h

/-- each completion is an assignment, the only one of its flow -/
theorem fill_law {f : Flow} (hc : checkE f = 0) (h5 : f.senders ≤ 5) (ps : List Int) {g : Flow} (hg : g = fillF f ps f.lots.length) :
    checkE g = 0 ∧ allE g = 0 ∧ allR g = [mapL g] ∧ possB f (mapL g) = true ∧ allE f = 0 := by
  subst hg
  have hcg := fill_check hc ps f.lots.length (Nat.le_refl _)
  have hone := known_one hcg (fill_known f ps)
  have he : allE (fillF f ps f.lots.length) = 0 := allE_few hcg (by rw [fill_snd]; exact h5)
  have hf := allE_few hc h5
  refine ⟨hcg, he, by unfold allR; rw [if_pos he, hone], ?_, hf⟩
  unfold possB
  rw [hf, decide_eq_true rfl, Bool.true_and]
  refine decide_eq_true ?_
  refine asg_sub (fill_like f ps (Nat.le_refl _)) f.lots.length (fun k hk π hπ => fill_perms ps hk π hπ) _ ?_
  have : mapL (fillF f ps f.lots.length) ∈ asgL (fillF f ps f.lots.length) := by rw [hone]; simp
  unfold asgL at this
  rw [fill_len] at this
  exact this

/-- one step as a lot put into its place -/
theorem fill_step {f : Flow} {ps : List Int} {k : Nat} (hk : k < f.lots.length) (hu : (lotAt f.lots k).known = false) :
    (fillF f ps (k + 1)).lots = (fillF f ps k).lots.set k ⟨(lotAt f.lots k).ins, true, choP f ps k⟩ := by
  have h := fill_at (f := f) (ps := ps) hk k (by omega)
  rw [if_neg (by omega)] at h
  simp only [fillF]
  rw [hu, if_neg (by decide)]
  unfold setK
  rw [h]

end Go.Proofs.Ythekefnocphcdaa

set_option linter.unusedVariables false

set_option linter.unusedSimpArgs false

namespace Go.Proofs.Ythekefnocphcdaa

open Go.RowKit

theorem and_one32v (n : Nat) (hn : n < 4294967296) (k : Nat) : (bits BinOp.and IntKind.u32 ((n : Int) / 2 ^ k) 1 == 1) = n.testBit k := by
  have e : ((n : Int) / 2 ^ k) = ((n / 2 ^ k : Nat) : Int) := by simp
  have h1 : n / 2 ^ k < 4294967296 := Nat.lt_of_le_of_lt (Nat.div_le_self _ _) hn
  rw [e, show (1 : Int) = ((1 : Nat) : Int) from rfl, bits_and_u32_nat _ _ h1 (by omega)]
  rw [Nat.testBit_eq_decide_div_mod_eq, Nat.and_one_is_mod, Bool.eq_iff_iff]
  simp only [beq_iff_eq, decide_eq_true_eq]
  omega

theorem pickTo_subl (l : List Int) (b : Nat) : ∀ i, i ≤ l.length → (pickTo l b i).Sublist (l.take i)
  | 0, _ => by simp [pickTo]
  | i + 1, h => by
    have ih := pickTo_subl l b i (by omega)
    simp only [pickTo]
    rw [List.take_succ_eq_append_getElem (by omega)]
    split
    · rw [nth_eq_getElem (by omega)]
      exact ih.append (List.Sublist.refl _)
    · exact List.Sublist.trans ih (List.sublist_append_left _ _)

theorem srtB_pairwise {l : List Int} (h : srtB l = true) : l.Pairwise (· ≤ ·) := by
  unfold srtB at h
  rw [List.all_eq_true] at h
  have key : ∀ d i, i + d < l.length → nth l i ≤ nth l (i + d) := by
    intro d
    induction d with
    | zero => intro i _; exact Int.le_refl _
    | succ d ih =>
      intro i hi
      have h1 := ih i (by omega)
      have h2 := of_decide_eq_true (h (i + d) (List.mem_range.2 (by omega)))
      exact Int.le_trans h1 h2
  rw [List.pairwise_iff_getElem]
  intro i j hi hj hij
  have := key (j - i) i (by omega)
  rw [show i + (j - i) = j by omega, nth_eq_getElem hi, nth_eq_getElem hj] at this
  exact this

theorem srtB_of_pairwise {l : List Int} (h : l.Pairwise (· ≤ ·)) : srtB l = true := by
  refine srtB_true fun j hj => ?_
  have := List.pairwise_iff_getElem.1 h j (j + 1) (by omega) hj (by omega)
  rw [nth_eq_getElem hj, nth_eq_getElem (show j < l.length by omega)]
  exact this

theorem view_less {f : Flow} {lines : List (List Int)} {c : List Int} (b : Nat) (h : viewE f lines c = 0) : viewE f lines (pickTo c b c.length) = 0 ∧ checkE f = 0 ∧ knownB f = true := by
  unfold viewE at *
  split at h
  · rename_i hc; exact absurd h hc
  · rename_i hc
    have hc : checkE f = 0 := by simpa using hc
    split at h
    · rename_i hv
      have hs := pickTo_subl c b c.length (Nat.le_refl _)
      rw [List.take_of_length_le (Nat.le_refl _)] at hs
      unfold viewOk at *
      simp only [Bool.and_eq_true] at hv
      obtain ⟨v1, v2, v3, ⟨v4, v5⟩, v6⟩ := hv
      refine ⟨?_, hc, v1⟩
      have w4 : diffB (pickTo c b c.length) = true := by
        unfold diffB at *
        exact decide_eq_true (List.Sublist.nodup hs (of_decide_eq_true v4))
      have w5 : allB (pickTo c b c.length) officeB = true := by
        unfold allB at *
        rw [List.all_eq_true] at *
        exact fun x hx => v5 x (hs.subset hx)
      have w6 : srtB (pickTo c b c.length) = true := srtB_of_pairwise (List.Pairwise.sublist hs (srtB_pairwise v6))
      rw [if_neg (by simp [hc]), v1, v2, v3, w4, w5, w6]
      rfl
    · simp at h

theorem pickTo_sub {c : List Int} {b : Nat} : ∀ x ∈ pickTo c b c.length, x ∈ c := by
  have hs := pickTo_subl c b c.length (Nat.le_refl _)
  rw [List.take_of_length_le (Nat.le_refl _)] at hs
  exact fun x hx => hs.subset hx

end Go.Proofs.Ythekefnocphcdaa

set_option linter.unusedVariables false

set_option linter.unusedSimpArgs false

namespace Go.Proofs.Ythekefnocphcdaa

theorem view_like (f : Flow) (lines : List (List Int)) (c : List Int) : Like f (viewF f lines c) := by
  refine ⟨rfl, view_len f lines c, fun j => ?_⟩
  by_cases hj : j < f.lots.length
  · rw [view_at hj, hide_ins]
  · rw [lotAt_none (by rw [view_len]; omega), lotAt_none (by omega)]

theorem like_trans {f g h : Flow} (h1 : Like f g) (h2 : Like f h) : Like g h := ⟨h2.snd.trans h1.snd.symm, h2.len.trans h1.len.symm, fun j => (h2.ins j).trans (h1.ins j).symm⟩

theorem strB_sub {l c c' : List Int} (h : ∀ x ∈ c', x ∈ c) (hs : strB l c = true) : strB l c' = true := by
  unfold strB anyB at *
  rw [List.any_eq_true] at *
  obtain ⟨n, hn, he⟩ := hs
  refine ⟨n, hn, ?_⟩
  cases hh : hasB c' n with
  | false => rfl
  | true =>
    rw [hasB_mem.2 (h n (hasB_mem.1 hh))] at he
    cases he

theorem hide_perms {f : Flow} {k : Nat} (hb : lotB f k = true) (hk : (lotAt f.lots k).known = true) {u v : Bool} (huv : u = true → v = true) : ∀ π ∈ permsOf (hideLot u (lotAt f.lots k)), π ∈ permsOf (hideLot v (lotAt f.lots k)) := by
  have hp : (lotAt f.lots k).perm ∈ permsL (lotAt f.lots k).ins.length := mem_permsL.2 ((lotB_parts hb).2.2.2.1 hk)
  intro π hπ
  cases hv : v with
  | false =>
    have hu : u = false := by
      cases u with
      | false => rfl
      | true => rw [huv rfl] at hv; cases hv
    rw [hu] at hπ
    exact hπ
  | true =>
    cases hu : u with
    | true => rw [hu] at hπ; exact hπ
    | false =>
      rw [hu] at hπ
      have e : π = (lotAt f.lots k).perm := by
        have h1 : π ∈ permsOf (lotAt f.lots k) := hπ
        unfold permsOf at h1
        rw [hk] at h1
        simpa using h1
      rw [e]
      simp only [hideLot, if_pos]
      unfold permsOf
      exact hp

section

variable {f : Flow} {lines : List (List Int)} {c c' : List Int} (hc : checkE f = 0) (hkn : ∀ j, j < f.lots.length → (lotAt f.lots j).known = true)
include hc hkn

theorem views_sub (hs : ∀ x ∈ c', x ∈ c) : ∀ p ∈ asgL (viewF f lines c), p ∈ asgL (viewF f lines c') := by
  obtain ⟨_, _, _, _, hl⟩ := checkE_ok hc
  intro p hp
  unfold asgL at *
  rw [view_len] at *
  refine asg_sub (like_trans (view_like f lines c') (view_like f lines c)) f.lots.length (fun k hk => ?_) p hp
  rw [view_at hk, view_at hk]
  exact hide_perms (lotsB_lot hl hk) (hkn k hk) (strB_sub hs)

theorem views_truth : mapL f ∈ asgL (viewF f lines c) := by
  obtain ⟨_, _, _, _, hl⟩ := checkE_ok hc
  have h1 : mapL f ∈ asgL f := by rw [known_one hc hkn]; simp
  unfold asgL at *
  rw [view_len]
  refine asg_sub (like_trans (view_like f lines c) ⟨rfl, rfl, fun _ => rfl⟩) f.lots.length (fun k hk => ?_) _ h1
  rw [view_at hk]
  exact hide_perms (u := false) (lotsB_lot hl hk) (hkn k hk) (fun h => by cases h)

theorem views_len (hs : ∀ x ∈ c', x ∈ c) : (asgL (viewF f lines c)).length ≤ (asgL (viewF f lines c')).length :=
  nodup_lenG (srt_nodup (asg_srt _)) (views_sub hc hkn hs)

end

/-- with few senders the lists are made; with many neither is -/
theorem views_few {f : Flow} (hc : checkE f = 0) (hf : few27 f = true) (lines : List (List Int)) (c : List Int) :
    (f.senders ≤ 5 ∧ allE (viewF f lines c) = 0) ∨ (8 < f.senders ∧ allE (viewF f lines c) = 2) := by
  have hcv := view_check (lines := lines) (c := c) hc
  have hes : (viewF f lines c).senders = f.senders := rfl
  by_cases h5 : f.senders ≤ 5
  · exact .inl ⟨h5, allE_few hcv (by rw [hes]; exact h5)⟩
  · have h8 : 8 < f.senders := by
      unfold few27 at hf
      simp at hf
      omega
    refine .inr ⟨h8, ?_⟩
    unfold allE
    rw [if_neg (by simp [hcv]), hes, if_pos h8]

theorem knownB_at {f : Flow} (h : knownB f = true) : ∀ j, j < f.lots.length → (lotAt f.lots j).known = true := by
  unfold knownB at h
  exact anyUnk_false (by simpa using h)

theorem known_knownB {f : Flow} (h : ∀ j, j < f.lots.length → (lotAt f.lots j).known = true) : knownB f = true := by
  unfold knownB
  cases hu : anyUnk f.lots f.lots.length with
  | false => rfl
  | true =>
    exfalso
    have : ∀ k, k ≤ f.lots.length → anyUnk f.lots k = false := fun k => by
      induction k with
      | zero => intro _; rfl
      | succ k ih => intro hk; simp only [anyUnk, ih (by omega), h k (by omega)]; rfl
    rw [this _ (Nat.le_refl _)] at hu
    cases hu

end Go.Proofs.Ythekefnocphcdaa
