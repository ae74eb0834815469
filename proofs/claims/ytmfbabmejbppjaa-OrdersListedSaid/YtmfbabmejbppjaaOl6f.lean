/-
  Marks of 24 places, and the list of those that are marked.
-/
import Derived.Test.YtmfbabmejbppjaaOl6e
set_option linter.unusedVariables false
set_option linter.unusedSimpArgs false
namespace Go.Proofs.Ytmfbabmejbppjaa
open Go.RowKit

def mkB (i j : Nat) (A : List Int) (m : Nat) (x : Nat) : Bool := decide ((x : Int) ∈ (A.take m).map (movedI i j))
def markC (f : Nat → Bool) : Array Value := ((List.range 24).map fun q => Value.bool (f q)).toArray
theorem markC_get {f : Nat → Bool} {q : Nat} (h : q < 24) : (markC f)[q]? = some (.bool (f q)) := by simp [markC, h]
theorem markC_size (f : Nat → Bool) : (markC f).size = 24 := by simp [markC]
theorem markC_lit (f : Nat → Bool) : (#[.bool (f 0), .bool (f 1), .bool (f 2), .bool (f 3), .bool (f 4), .bool (f 5), .bool (f 6), .bool (f 7), .bool (f 8), .bool (f 9), .bool (f 10), .bool (f 11), .bool (f 12), .bool (f 13), .bool (f 14), .bool (f 15), .bool (f 16), .bool (f 17), .bool (f 18), .bool (f 19), .bool (f 20), .bool (f 21), .bool (f 22), .bool (f 23)] : Array Value) = markC f := rfl
theorem mkB_zero (i j : Nat) (A : List Int) : mkB i j A 0 = fun _ => false := by funext x; simp [mkB]
theorem markC_set {f g : Nat → Bool} {q : Nat} (hq : q < 24) (hg : ∀ x, x < 24 → g x = if x = q then true else f x) : (markC f).setIfInBounds q (.bool true) = markC g := by
  apply Array.ext_getElem?
  intro x
  rw [Array.getElem?_setIfInBounds]
  by_cases hx : x < 24
  · rw [markC_get hx, markC_get hx, hg x hx, markC_size]
    by_cases e : q = x
    · subst e; simp [hx]
    · have e' : ¬ x = q := fun h => e h.symm
      simp [e, e']
  · have h1 : (markC f)[x]? = none := Array.getElem?_eq_none (by rw [markC_size]; omega)
    have h2 : (markC g)[x]? = none := Array.getElem?_eq_none (by rw [markC_size]; omega)
    rw [h1, h2]
    split
    · omega
    · rfl
theorem mkB_succ {i j m : Nat} {A : List Int} {x : Nat} (hm : m < A.length) (hx : movedI i j (nth A m) = (x : Int)) (y : Nat) : mkB i j A (m + 1) y = if y = x then true else mkB i j A m y := by
  unfold mkB
  rw [take_moved hm rfl, hx]
  by_cases e : y = x
  · subst e; simp
  · have : ¬ (y : Int) = x := by omega
    simp [e, this]
def pickL (f : Nat → Bool) (q : Nat) : List Int := ((List.range q).filter f).map (fun (x : Nat) => (x : Int))
theorem pickL_zero (f : Nat → Bool) : pickL f 0 = [] := rfl
theorem pickL_succ (f : Nat → Bool) (q : Nat) : pickL f (q + 1) = if f q = true then pickL f q ++ [(q : Int)] else pickL f q := by
  unfold pickL
  rw [List.range_succ, List.filter_append, List.map_append]
  by_cases h : f q = true
  · simp [h]
  · simp [h]
theorem pickL_len (f : Nat → Bool) (q : Nat) : (pickL f q).length ≤ q := by
  unfold pickL
  rw [List.length_map]
  have := List.length_filter_le f (List.range q)
  simpa using this
theorem lt_ext : ∀ {l1 l2 : List Int}, l1.Pairwise (· < ·) → l2.Pairwise (· < ·) → (∀ x, x ∈ l1 ↔ x ∈ l2) → l1 = l2
  | [], [], _, _, _ => rfl
  | [], b :: s, _, _, h => by have := (h b).2 (List.mem_cons_self ..); cases this
  | a :: r, [], _, _, h => by have := (h a).1 (List.mem_cons_self ..); cases this
  | a :: r, b :: s, h1, h2, h => by
    obtain ⟨p1, p2⟩ := List.pairwise_cons.1 h1
    obtain ⟨q1, q2⟩ := List.pairwise_cons.1 h2
    have hab : a = b := by
      rcases List.mem_cons.1 ((h a).1 (List.mem_cons_self ..)) with e | e
      · exact e
      · rcases List.mem_cons.1 ((h b).2 (List.mem_cons_self ..)) with e2 | e2
        · exact e2.symm
        · have := q1 a e; have := p1 b e2; omega
    subst hab
    congr 1
    refine lt_ext p2 q2 (fun x => ⟨fun hx => ?_, fun hx => ?_⟩)
    · rcases List.mem_cons.1 ((h x).1 (List.mem_cons_of_mem _ hx)) with e | e
      · have := p1 x hx; omega
      · exact e
    · rcases List.mem_cons.1 ((h x).2 (List.mem_cons_of_mem _ hx)) with e | e
      · have := q1 x hx; omega
      · exact e
theorem pick_sort {i j : Nat} {A : List Int} (hi : i < 24) (hj : j < 24) (hn : A.Nodup) (hb : ∀ q ∈ A, 0 ≤ q ∧ q < 24) : pickL (mkB i j A A.length) 24 = sortI (A.map (movedI i j)) := by
  have hr : risesB 24 (-1) (sortI (A.map (movedI i j))) = true := by
    refine rises_sort.2 ⟨(nodup_map_inj (fun a b h => movedI_inj h)).2 hn, fun a ha => ?_⟩
    obtain ⟨q, hq, rfl⟩ := List.mem_map.1 ha
    exact (movedI_range hi hj q).2 (hb q hq)
  obtain ⟨s1, s2⟩ := risesB_iff.1 hr
  refine lt_ext ?_ s1 (fun x => ?_)
  · unfold pickL
    rw [List.pairwise_map]
    refine List.Pairwise.imp (R := fun (a b : Nat) => a < b) (fun h => by omega) ?_
    exact List.Pairwise.filter _ List.pairwise_lt_range
  · rw [(sortI_perm _).mem_iff]
    unfold pickL mkB
    simp only [List.take_length, List.mem_map, List.mem_filter, List.mem_range, decide_eq_true_eq]
    constructor
    · rintro ⟨y, ⟨_, ⟨q, hq, e⟩⟩, rfl⟩
      exact ⟨q, hq, e⟩
    · rintro ⟨q, hq, rfl⟩
      have := (movedI_range hi hj q).2 (hb q hq)
      exact ⟨(movedI i j q).toNat, ⟨by omega, q, hq, by omega⟩, by omega⟩
theorem index_mark {w : World} {f : Nat → Bool} {q : Nat} (h : q < 24) : (Instr.index 45 (.agg (markC f)) (.int .i64 (q : Int))).run Try.prog w = .ok (.bool (f q)) w := by
  have hg := markC_get (f := f) h
  have hu := Try.underlying45
  have hq : (q : Int) < 24 := by omega
  have hq0 : (0 : Int) ≤ (q : Int) := by omega
  simp [Instr.index, go_sem, hu, hg, hq, hq0]
  intro; omega
end Go.Proofs.Ytmfbabmejbppjaa
