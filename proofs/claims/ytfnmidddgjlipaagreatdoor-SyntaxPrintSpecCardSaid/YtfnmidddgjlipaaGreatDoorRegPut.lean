/-
  A frame of which only some slots turn: what an invariant over a drawn region says of it.
-/
import Derived.Test.YtfnmidddgjlipaaGreatDoorRegInv
set_option linter.unusedVariables false
set_option linter.unusedSimpArgs false
namespace Go.Proofs.YtfnmidddgjlipaaGreatDoor
open Go.RowKit

def updV (xs : Nat → Value) (i : Nat) (v : Value) : Nat → Value := fun j => if j = i then v else xs j
theorem updV_self (xs : Nat → Value) (i : Nat) (v : Value) : updV xs i v i = v := by unfold updV; rw [if_pos rfl]
theorem updV_ne {xs : Nat → Value} {i j : Nat} {v : Value} (h : j ≠ i) : updV xs i v j = xs j := by unfold updV; rw [if_neg h]
/-- the slots base .. base+n-1 hold xs, the others what a0 holds -/
structure FrameOf (a0 : Act) (base n : Nat) (xs : Nat → Value) (a : Act) : Prop where
  defers : a.defers = a0.defers
  size : a.tmps.size = a0.tmps.size
  slot : ∀ k, k < n → a.tmps.getD (base + k) undef = xs k
  out : ∀ t, (t < base ∨ base + n ≤ t) → a.tmps.getD t undef = a0.tmps.getD t undef
theorem FrameOf.start (a0 : Act) (base n : Nat) : FrameOf a0 base n (fun k => a0.tmps.getD (base + k) undef) a0 := ⟨rfl, rfl, fun _ _ => rfl, fun _ _ => rfl⟩
theorem getD_setIf {l : Array Value} {d t : Nat} {v : Value} (hd : d < l.size) : (l.setIfInBounds d v).getD t undef = if t = d then v else l.getD t undef := by
  rw [Array.getD_eq_getD_getElem?, Array.getD_eq_getD_getElem?]
  by_cases h : t = d
  · subst h
    rw [if_pos rfl]
    simp [hd]
  · rw [if_neg h, Array.getElem?_setIfInBounds_ne (fun e => h e.symm)]
theorem FrameOf.put {a0 a : Act} {base n : Nat} {xs : Nat → Value} (h : FrameOf a0 base n xs a) {i d : Nat} (v : Value) (hi : i < n) (hd : d = base + i) (hs : base + n ≤ a0.tmps.size) : FrameOf a0 base n (updV xs i v) (a.put (some d) v) := by
  subst hd
  have hsz : base + i < a.tmps.size := by rw [h.size]; omega
  refine ⟨h.defers, ?_, fun k hk => ?_, fun t ht => ?_⟩
  · show (a.tmps.setIfInBounds (base + i) v).size = _
    rw [Array.size_setIfInBounds, h.size]
  · show (a.tmps.setIfInBounds (base + i) v).getD (base + k) undef = _
    rw [getD_setIf hsz]
    unfold updV
    by_cases e : k = i
    · subst e; rw [if_pos rfl, if_pos rfl]
    · rw [if_neg (by omega), if_neg e, h.slot k hk]
  · show (a.tmps.setIfInBounds (base + i) v).getD t undef = _
    rw [getD_setIf hsz, if_neg (by omega), h.out t ht]
theorem FrameOf.ev {a0 a : Act} {base n : Nat} {xs : Nat → Value} (h : FrameOf a0 base n xs a) {k d : Nat} (hk : k < n) (hd : d = base + k) : a.eval (.tmp d) = xs k := by
  subst hd; exact h.slot k hk
theorem FrameOf.lo {a0 a : Act} {base n : Nat} {xs : Nat → Value} (h : FrameOf a0 base n xs a) {t : Nat} (ht : t < base) : a.eval (.tmp t) = a0.eval (.tmp t) := h.out t (.inl ht)
/-- two frames are one if all their slots are -/
theorem act_ext {a b : Act} (hd : a.defers = b.defers) (hs : a.tmps.size = b.tmps.size) (h : ∀ t, t < b.tmps.size → a.tmps.getD t undef = b.tmps.getD t undef) : a = b := by
  obtain ⟨x, y⟩ := a
  obtain ⟨x', y'⟩ := b
  simp only at hd hs h
  subst hd
  congr 1
  apply Array.ext hs
  intro i h1 h2
  have := h i h2
  rw [Array.getD_eq_getD_getElem?, Array.getD_eq_getD_getElem?, Array.getElem?_eq_getElem h1, Array.getElem?_eq_getElem h2] at this
  exact this
end Go.Proofs.YtfnmidddgjlipaaGreatDoor
