/-
  The walk of the closure of reach.spots.
-/
import Derived.Test.YtndcbnnbgedgcaaF26b
import Derived.Test.YtndcbnnbgedgcaaS26
set_option linter.unusedVariables false
set_option linter.unusedSimpArgs false
namespace Go.Proofs.Ytndcbnnbgedgcaa
open Go.RowKit

/-- what the closure adds in its first i rounds -/
def pfoll (x : Lot) (n : Int) (S : List Int) (some : Bool) : Nat → List Int
  | 0 => S
  | i + 1 => if some then (if x.known then (if hasB S (nth x.ins i) then pfoll x n S some i ++ [n + nth x.perm i] else pfoll x n S some i) else pfoll x n S some i ++ [n + (i : Int)]) else pfoll x n S some i

theorem pfoll_low {x : Lot} {n : Int} {S : List Int} {some : Bool} (hp : ∀ i, 0 ≤ nth x.perm i) {y : Int} (hy : y < n) : ∀ i, hasB (pfoll x n S some i) y = hasB S y
  | 0 => rfl
  | i + 1 => by
    have ih := pfoll_low (some := some) (S := S) hp hy i
    have e1 : (n + nth x.perm i == y) = false := by have := hp i; simp only [beq_eq_false_iff_ne, ne_eq]; omega
    have e2 : (n + (i : Int) == y) = false := by simp only [beq_eq_false_iff_ne, ne_eq]; omega
    simp only [pfoll]
    repeat' split
    all_goals first | exact ih | (rw [hasB_snoc, ih]; simp [e1, e2])

theorem hasB_true {S : List Int} {y : Int} : hasB S y = true ↔ y ∈ S := by unfold hasB; simp
theorem pfoll_has {x : Lot} {n : Int} {S : List Int} {some : Bool} {y : Int} : ∀ i, hasB (pfoll x n S some i) y = true ↔ hasB S y = true ∨ ∃ j, j < i ∧ some = true ∧ ((x.known = false ∧ y = n + j) ∨ (x.known = true ∧ hasB S (nth x.ins j) = true ∧ y = n + nth x.perm j))
  | 0 => by simp [pfoll]
  | i + 1 => by
    have ih := pfoll_has (x := x) (n := n) (S := S) (some := some) (y := y) i
    have step : ∀ p : Nat → Prop, (∃ j, j < i + 1 ∧ p j) ↔ (∃ j, j < i ∧ p j) ∨ p i := by
      intro p
      constructor
      · rintro ⟨j, hj, h⟩
        by_cases e : j = i
        · subst e; exact Or.inr h
        · exact Or.inl ⟨j, by omega, h⟩
      · rintro (⟨j, hj, h⟩ | h)
        · exact ⟨j, by omega, h⟩
        · exact ⟨i, by omega, h⟩
    rw [step]
    simp only [pfoll]
    cases hsome : some
    · simp [hsome] at ih ⊢; exact ih
    · rw [hsome] at ih
      cases hk : x.known
      · rw [hk] at ih
        simp only [Bool.false_eq_true, if_true, if_false, false_and, or_false, true_and, hasB_snoc, Bool.or_eq_true, beq_iff_eq] at ih ⊢
        rw [ih, or_assoc]
        exact or_congr Iff.rfl (or_congr Iff.rfl eq_comm)
      · rw [hk] at ih
        cases hh : hasB S (nth x.ins i)
        · simp only [Bool.false_eq_true, Bool.true_eq_false, if_true, if_false, false_and, or_false, false_or, true_and] at ih ⊢
          exact ih
        · simp only [Bool.false_eq_true, Bool.true_eq_false, if_true, if_false, false_and, or_false, false_or, true_and, hasB_snoc, Bool.or_eq_true, beq_iff_eq] at ih ⊢
          rw [ih, or_assoc]
          exact or_congr Iff.rfl (or_congr Iff.rfl eq_comm)

theorem canTo_true {x : Lot} {S : List Int} {k : Nat} : ∀ i, canTo x S k i = true ↔ ∃ j, j < i ∧ hasB S (nth x.ins j) = true ∧ (x.known = false ∨ nth x.perm j = k)
  | 0 => by simp [canTo]
  | i + 1 => by
    have ih := canTo_true (x := x) (S := S) (k := k) i
    simp only [canTo, Bool.or_eq_true, Bool.and_eq_true, ih, Bool.not_eq_true', beq_iff_eq]
    constructor
    · rintro (⟨j, hj, h⟩ | h)
      · exact ⟨j, by omega, h⟩
      · exact ⟨i, by omega, h⟩
    · rintro ⟨j, hj, h⟩
      by_cases e : j = i
      · subst e; exact Or.inr h
      · exact Or.inl ⟨j, by omega, h⟩
theorem follTo_has {x : Lot} {n : Int} {S : List Int} {y : Int} : ∀ k, hasB (follTo x n S k) y = true ↔ hasB S y = true ∨ ∃ q, q < k ∧ canTo x S q x.ins.length = true ∧ y = n + q
  | 0 => by simp [follTo]
  | k + 1 => by
    have ih := follTo_has (x := x) (n := n) (S := S) (y := y) k
    simp only [follTo]
    split
    · rename_i hc
      rw [hasB_snoc, Bool.or_eq_true, ih, beq_iff_eq]
      constructor
      · rintro ((h | ⟨q, hq, h⟩) | h)
        · exact Or.inl h
        · exact Or.inr ⟨q, by omega, h⟩
        · exact Or.inr ⟨k, by omega, hc, h.symm⟩
      · rintro (h | ⟨q, hq, h1, h2⟩)
        · exact Or.inl (Or.inl h)
        · by_cases e : q = k
          · subst e; exact Or.inr h2.symm
          · exact Or.inl (Or.inr ⟨q, by omega, h1, h2⟩)
    · rename_i hc
      rw [ih]
      constructor
      · rintro (h | ⟨q, hq, h⟩)
        · exact Or.inl h
        · exact Or.inr ⟨q, by omega, h⟩
      · rintro (h | ⟨q, hq, h1, h2⟩)
        · exact Or.inl h
        · by_cases e : q = k
          · subst e; exact absurd h1 hc
          · exact Or.inr ⟨q, by omega, h1, h2⟩
theorem anyB_true {zs : List Int} {p : Int → Bool} : anyB zs p = true ↔ ∃ j, j < zs.length ∧ p (nth zs j) = true := by
  unfold anyB
  rw [List.any_eq_true]
  constructor
  · rintro ⟨x, hx, hp⟩
    obtain ⟨j, hj, rfl⟩ := List.getElem_of_mem hx
    exact ⟨j, hj, by rw [nth_eq_getElem hj]; exact hp⟩
  · rintro ⟨j, hj, hp⟩
    exact ⟨_, List.getElem_mem hj, by rw [← nth_eq_getElem hj]; exact hp⟩
theorem pfoll_same {x : Lot} {n : Int} {S : List Int} (hp : x.known = true → x.perm.length = x.ins.length ∧ ∀ y ∈ x.perm, 0 ≤ y ∧ y < x.ins.length) (y : Int) :
    hasB (pfoll x n S (anyB x.ins (hasB S)) x.ins.length) y = hasB (follTo x n S x.ins.length) y := by
  rw [Bool.eq_iff_iff, pfoll_has, follTo_has]
  refine or_congr Iff.rfl ?_
  simp only [canTo_true, anyB_true]
  constructor
  · rintro ⟨j, hj, ⟨i, hi, hs⟩, (⟨hk, e⟩ | ⟨hk, hh, e⟩)⟩
    · exact ⟨j, hj, ⟨i, hi, hs, Or.inl hk⟩, e⟩
    · obtain ⟨h1, h2⟩ := hp hk
      have hm : nth x.perm j ∈ x.perm := by rw [nth_eq_getElem (by omega)]; exact List.getElem_mem _
      have := h2 _ hm
      exact ⟨(nth x.perm j).toNat, by omega, ⟨j, hj, hh, Or.inr (by omega)⟩, by omega⟩
  · rintro ⟨q, hq, ⟨i, hi, hs, hk⟩, e⟩
    rcases hk with hk | hk
    · exact ⟨q, hq, ⟨i, hi, hs⟩, Or.inl ⟨hk, e⟩⟩
    · cases hkn : x.known
      · exact ⟨q, hq, ⟨i, hi, hs⟩, Or.inl ⟨rfl, e⟩⟩
      · exact ⟨i, hi, ⟨i, hi, hs⟩, Or.inr ⟨rfl, hs, by rw [hk]; exact e⟩⟩

end Go.Proofs.Ytndcbnnbgedgcaa
