/-
  Layer 18: slices.Sort of a list of the call's own.
-/
import Derived.Test.YtmfbabmejbppjaaOr4
import Derived.Test.YtmfbabmejbppjaaShl18
set_option linter.unusedVariables false
set_option linter.unusedSimpArgs false
namespace Go.Proofs.Ytmfbabmejbppjaa
open Go.RowKit

theorem sort_own {C : Nat} {w : World} {v : Value} {xs : List Int} (h : OwnInts C w v xs) :
    Calls Try.prog 40 #[v] w fun e w' => e = .returned (.tuple #[]) ∧ OwnInts C w' v (sortI xs) ∧ w.grownBy w' v.ownBlock := by
  have hlen : (sortI xs).length = xs.length := (sortI_perm xs).length_eq
  obtain ⟨⟨hl, h1⟩, h2, h3⟩ := h
  have h3' : ∀ x ∈ sortI xs, I64 x := fun x hx => h3 x ((sortI_perm xs).mem_iff.1 hx)
  rcases h1 with ⟨rfl, hn⟩ | ⟨g, cap, cur, rfl, hb, hg, hnc, hcm, hcs, htk⟩
  · refine (Try.slices_Sort_int_none none 0 w).mono ?_
    rintro e w' ⟨rfl, rfl⟩
    obtain rfl : xs = [] := List.length_eq_zero_iff.1 hn
    exact ⟨rfl, by rw [show sortI [] = [] from by unfold sortI; simp]; exact OwnInts.nil _ _, World.grownBy.refl _ _⟩
  · have hgl := (Array.getElem?_eq_some_iff.1 hg).1
    have hcell : ∀ j, j < xs.length → cur[j]? = some (.int .i64 (nth xs j)) := by
      intro j hj
      have : (cur.toList.take (xs.length * 1))[j]? = (xs.map (Value.int .i64))[j]? := by rw [htk]
      rw [List.getElem?_take, if_pos (by omega), List.getElem?_map, List.getElem?_eq_getElem hj] at this
      rw [nth_eq_getElem hj]
      simpa using this
    refine (Try.slices_Sort_int g 0 cap xs w (fun j hj => ?_) hgl (by unfold maxLen at hcm; omega)).mono ?_
    · have hj' : j < xs.length := by simpa using hj
      refine ⟨?_, by simp [World.frozen?, hg]⟩
      simp only [World.cell?, hg, Nat.zero_add]
      rw [hcell j hj', nth_eq_getElem hj']
      simp [hj']
    · rintro e w' ⟨rfl, n, os, rfl⟩
      obtain ⟨ds, hds⟩ : ∃ ds, sortI xs = ds := ⟨_, rfl⟩
      rw [show (xs.mergeSort fun x y => decide (x ≤ y)) = ds from hds]
      rw [hds] at hlen h3' ⊢
      have hblk : (Go.Sort.grow (Go.Sort.putRow (Value.int .i64) (Go.Sort.ahead w n) g 0 ds.toArray) os).heap[g]? = some (.cells (Go.Sort.putCells (Value.int .i64) 0 ds.toArray cur) 3 (0, 0)) := by
        unfold Go.Sort.grow Go.Sort.putRow Go.Sort.mapBlock
        show ((w.heap.modify g _) ++ os)[g]? = _
        rw [Array.getElem?_append_left (by simpa using hgl), Array.getElem?_modify, if_pos rfl, hg]
        rfl
      have hoth : ∀ k, k < w.heap.size → k ≠ g → (Go.Sort.grow (Go.Sort.putRow (Value.int .i64) (Go.Sort.ahead w n) g 0 ds.toArray) os).heap[k]? = w.heap[k]? := by
        intro k hk hne
        unfold Go.Sort.grow Go.Sort.putRow Go.Sort.mapBlock
        show ((w.heap.modify g _) ++ os)[k]? = _
        rw [Array.getElem?_append_left (by simpa using hk), Array.getElem?_modify, if_neg (fun e => hne e.symm)]
      refine ⟨rfl, ⟨⟨by simp, Or.inr ⟨g, cap, _, by rw [hlen], hb, hblk, by omega, hcm, ?_, ?_⟩⟩, by omega, h3'⟩, ⟨rfl, rfl, rfl, ?_, fun k hk hne => hoth k hk (fun e => hne (by rw [e]; rfl))⟩⟩
      · unfold Go.Sort.putCells
        simpa using hcs
      · apply List.ext_getElem?
        intro i
        rw [List.getElem?_take, List.getElem?_map]
        by_cases hi : i < ds.length
        · rw [if_pos (by omega), List.getElem?_eq_getElem hi]
          unfold Go.Sort.putCells
          have hic : i < cur.size := by omega
          simp [hic, hi]
        · rw [if_neg (by omega), List.getElem?_eq_none (by omega)]
          rfl
      · unfold Go.Sort.grow Go.Sort.putRow Go.Sort.mapBlock
        show w.heap.size ≤ ((w.heap.modify g _) ++ os).size
        simp
end Go.Proofs.Ytmfbabmejbppjaa
