/-
  Layer 26: what the functions of frankingref26 compute, in plain words.
-/
import Derived.Test.YtndcbnnbgedgcaaS25
set_option linter.unusedVariables false
set_option linter.unusedSimpArgs false
namespace Go.Proofs.Ytndcbnnbgedgcaa

/-- can out k of a lot be reached over one of its first i ins? -/
def canTo (x : Lot) (spots : List Int) (k : Nat) : Nat → Bool
  | 0 => false
  | i + 1 => canTo x spots k i || (hasB spots (nth x.ins i) && (!x.known || (nth x.perm i == (k : Int))))
/-- spots, with those of the first k outs that can be reached -/
def follTo (x : Lot) (n : Int) (spots : List Int) : Nat → List Int
  | 0 => spots
  | k + 1 => if canTo x spots k x.ins.length then follTo x n spots k ++ [n + k] else follTo x n spots k
/-- the spots after k lots -/
def spotsTo (f : Flow) (s : Int) : Nat → List Int
  | 0 => [s]
  | k + 1 => follTo (lotAt f.lots k) (beforeI f k) (spotsTo f s k) (lotAt f.lots k).ins.length
theorem follTo_len (x : Lot) (n : Int) (spots : List Int) : ∀ k, (follTo x n spots k).length ≤ spots.length + k ∧ spots.length ≤ (follTo x n spots k).length
  | 0 => by simp [follTo]
  | k + 1 => by
    have := follTo_len x n spots k
    simp only [follTo]
    split
    · simp; omega
    · omega
theorem spotsTo_len (f : Flow) (s : Int) : ∀ k, (spotsTo f s k).length ≤ (1 + beforeI f k - f.senders).toNat ∧ f.senders ≤ beforeI f k ∧ 1 ≤ (spotsTo f s k).length
  | 0 => by simp [spotsTo, beforeI]
  | k + 1 => by
    have ih := spotsTo_len f s k
    have h := follTo_len (lotAt f.lots k) (beforeI f k) (spotsTo f s k) (lotAt f.lots k).ins.length
    simp only [spotsTo, beforeI]
    omega
/-- of the first k of some ends, those that are among some spots -/
def amongTo (ends spots : List Int) : Nat → List Int
  | 0 => []
  | k + 1 => if hasB spots (nth ends k) then amongTo ends spots k ++ [nth ends k] else amongTo ends spots k
theorem amongTo_len (ends spots : List Int) : ∀ k, (amongTo ends spots k).length ≤ k
  | 0 => by simp [amongTo]
  | k + 1 => by
    have := amongTo_len ends spots k
    simp only [amongTo]
    split
    · simp; omega
    · omega
theorem amongTo_eq (ends spots : List Int) : ∀ k, k ≤ ends.length → amongTo ends spots k = (ends.take k).filter (hasB spots ·)
  | 0, _ => by simp [amongTo]
  | k + 1, h => by
    have ih := amongTo_eq ends spots k (by omega)
    rw [List.take_succ_eq_append_getElem (by omega), List.filter_append, ← nth_lt (by omega)]
    simp only [amongTo, ih]
    split <;> simp_all
/-- the ends of a sender of a valid flow -/
def reachL (f : Flow) (s : Int) : List Int := amongTo (endsL f) (spotsTo f s f.lots.length) (endsL f).length
def reachE (f : Flow) (s : Int) : Int := if checkE f ≠ 0 then checkE f else if s < 0 ∨ f.senders ≤ s then 1 else 0
def reachR (f : Flow) (s : Int) : List Int := if reachE f s = 0 then reachL f s else []
def matTo (f : Flow) : Nat → List (List Int)
  | 0 => []
  | k + 1 => matTo f k ++ [reachL f k]

end Go.Proofs.Ytndcbnnbgedgcaa
