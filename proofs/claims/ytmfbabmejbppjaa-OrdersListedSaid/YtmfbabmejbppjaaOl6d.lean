/-
  A store into a list of strings of the call's own.
-/
import Derived.Test.YtmfbabmejbppjaaOl6c
set_option linter.unusedVariables false
set_option linter.unusedSimpArgs false
namespace Go.Proofs.Ytmfbabmejbppjaa
open Go.RowKit

theorem flat_one {vals : List (List Value)} {xs : List Str} (hl : vals.length = xs.length) (h : ∀ j, j < xs.length → vals.getD j [] = [strV (xs.getD j [])]) : vals.flatten = xs.map strV := by
  apply List.ext_getElem?
  intro j
  have hlen : ∀ c ∈ vals, c.length = 1 := by
    intro c hc
    obtain ⟨q, hq, rfl⟩ := List.getElem_of_mem hc
    have := h q (by omega)
    rw [List.getD_eq_getElem?_getD, List.getElem?_eq_getElem hq] at this
    simp only [Option.getD_some] at this
    rw [this]; rfl
  by_cases hj : j < xs.length
  · have h1 := flat_getK hlen j 0 (by omega) (by omega)
    rw [Nat.mul_one, Nat.add_zero] at h1
    rw [h1, h j hj, List.getElem?_map, List.getElem?_eq_getElem hj, List.getD_eq_getElem?_getD, List.getElem?_eq_getElem hj]
    rfl
  · rw [List.getElem?_eq_none (by rw [flat_lenK hlen]; omega), List.getElem?_eq_none (by simp; omega)]
theorem flat_two (xs : List Str) : (xs.map (fun x => [strV x])).flatten = xs.map strV := by
  induction xs with
  | nil => rfl
  | cons a r ih => simp [ih]
/-- a list of strings of the call's own, in the plain form -/
theorem ownStrs_iff {C : Nat} {w : World} {v : Value} {xs : List Str} : OwnStrs C w v xs ↔ w.ownsRow C 9 1 v xs.length (xs.map strV) ∧ xs.length ≤ 8796093022208 ∧ ∀ x ∈ xs, x.length ≤ 140737488351232 := by
  constructor
  · rintro ⟨vals, h1, h2, h3, h4⟩
    refine ⟨?_, h3, fun x hx => ?_⟩
    · rw [← flat_one h2 (fun j hj => (h4 j hj).1)]; exact h1
    · obtain ⟨j, hj, rfl⟩ := List.getElem_of_mem hx
      have := (h4 j hj).2
      rwa [List.getD_eq_getElem?_getD, List.getElem?_eq_getElem hj] at this
  · rintro ⟨h1, h2, h3⟩
    refine ⟨xs.map (fun x => [strV x]), by rw [flat_two]; exact h1, by simp, h2, fun j hj => ⟨?_, ?_⟩⟩
    · rw [List.getD_eq_getElem?_getD, List.getElem?_map, List.getElem?_eq_getElem hj, List.getD_eq_getElem?_getD, List.getElem?_eq_getElem hj]; rfl
    · rw [List.getD_eq_getElem?_getD, List.getElem?_eq_getElem hj]; exact h3 _ (List.getElem_mem hj)
/-- its cells; a store into one of them -/
theorem OwnStrs.set {C : Nat} {w : World} {v : Value} {xs : List Str} (h : OwnStrs C w v xs) (hne : xs ≠ []) : ∃ g c, v = .slice (some ⟨g, 0, none⟩) xs.length c ∧ C ≤ g ∧ g < w.heap.size ∧ xs.length ≤ c ∧ c ≤ 9223372036854775807 ∧
    (∀ i, i < xs.length → w.cell? ⟨g, i, none⟩ = some (strV (strAt xs i)) ∧ w.frozen? ⟨g, i, none⟩ = false) ∧
    ∀ i s, i < xs.length → s.length ≤ 140737488351232 → OwnStrs C (w.setCell ⟨g, i, none⟩ (strV s)) v (xs.set i s) := by
  obtain ⟨⟨hl, h1⟩, h2, h3⟩ := ownStrs_iff.1 h
  rcases h1 with ⟨rfl, hn⟩ | ⟨g, cap, cur, rfl, hb, hg, hnc, hcm, hcs, htk⟩
  · exact absurd (List.length_eq_zero_iff.1 hn) hne
  · have hgl := (Array.getElem?_eq_some_iff.1 hg).1
    refine ⟨g, cap, rfl, hb, hgl, hnc, by unfold maxLen at hcm; omega, fun i hi => ⟨?_, ?_⟩, fun i s hi hs => ownStrs_iff.2 ⟨?_, by simpa using h2, fun x hx => ?_⟩⟩
    · simp only [World.cell?, hg, Nat.zero_add]
      have : (cur.toList.take (xs.length * 1))[i]? = (xs.map strV)[i]? := by rw [htk]
      rw [List.getElem?_take, if_pos (by omega), List.getElem?_map, List.getElem?_eq_getElem hi] at this
      rw [strAt_get hi]
      simpa using this
    · simp [World.frozen?, hg]
    · refine ⟨by simp, Or.inr ⟨g, cap, cur.setIfInBounds i (strV s), by simp, hb, ?_, by simpa using hnc, hcm, by simpa using hcs, ?_⟩⟩
      · simp [World.setCell, Array.getElem?_modify, hg]
      · apply List.ext_getElem?
        intro q
        have hq := congrArg (fun l => l[q]?) htk
        simp only [List.getElem?_take, List.getElem?_map] at hq ⊢
        rw [List.length_set]
        simp only [Array.getElem?_toList, Array.getElem?_setIfInBounds, List.getElem?_set]
        by_cases e : i = q
        · subst e
          have hic : i < cur.size := by omega
          simp [hic, hi]
        · rw [if_neg e, if_neg e]
          simpa using hq
    · rcases List.mem_or_eq_of_mem_set hx with hx | rfl
      · exact h3 x hx
      · exact hs
end Go.Proofs.Ytmfbabmejbppjaa
