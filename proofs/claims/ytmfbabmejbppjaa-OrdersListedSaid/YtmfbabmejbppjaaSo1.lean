/-
  Layer 18, plain: rising lists, step by step.
-/
import Derived.Test.YtmfbabmejbppjaaSo0
import Derived.Test.YtmfbabmejbppjaaLib
set_option linter.unusedVariables false
set_option linter.unusedSimpArgs false
namespace Go.Proofs.Ytmfbabmejbppjaa

def lastAt (xs : List Int) : Nat → Int
  | 0 => -1
  | k + 1 => nth xs k
def RisesInv (offs : Int) (xs : List Int) (k : Nat) : Prop := risesB offs (-1) xs = risesB offs (lastAt xs k) (xs.drop k) ∧ -1 ≤ lastAt xs k
theorem rises_start (offs : Int) (xs : List Int) : RisesInv offs xs 0 := ⟨rfl, by simp [lastAt]⟩
theorem rises_at {offs : Int} {xs : List Int} {k : Nat} (h : RisesInv offs xs k) (hk : k < xs.length) : risesB offs (-1) xs = (decide (lastAt xs k < nth xs k) && decide (nth xs k < offs) && risesB offs (nth xs k) (xs.drop (k + 1))) := by
  rw [h.1, List.drop_eq_getElem_cons hk, nth_eq_getElem hk]
  rfl
theorem rises_next {offs : Int} {xs : List Int} {k : Nat} (h : RisesInv offs xs k) (hk : k < xs.length) (h1 : lastAt xs k < nth xs k) (h2 : nth xs k < offs) : RisesInv offs xs (k + 1) := by
  refine ⟨?_, ?_⟩
  · rw [rises_at h hk, decide_eq_true h1, decide_eq_true h2]
    rfl
  · have := h.2
    show -1 ≤ nth xs k
    omega
theorem rises_end {offs : Int} {xs : List Int} {k : Nat} (h : RisesInv offs xs k) (hk : xs.length ≤ k) : risesB offs (-1) xs = true := by
  rw [h.1, List.drop_of_length_le hk]
  rfl

end Go.Proofs.Ytmfbabmejbppjaa
