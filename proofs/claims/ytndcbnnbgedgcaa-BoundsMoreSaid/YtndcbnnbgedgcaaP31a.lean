/-
  Layer 31: the walks of Crowd (both), few, SameInts, less.
-/
import Derived.Test.YtndcbnnbgedgcaaF26i
import Derived.Test.YtndcbnnbgedgcaaR26d
set_option linter.unusedVariables false
set_option linter.unusedSimpArgs false
namespace Go.Proofs.Ytndcbnnbgedgcaa
open Go.RowKit

theorem few31_any (B : Nat) (w : World) (vs vl : Value) (f : Flow) (hf : IsFlow B w vs vl f) (hB : B ≤ w.heap.size) :
    Calls Try.prog 12 #[.agg #[vs, vl]] w fun e w' => e = .returned (.bool (few26 f)) ∧ Below w.heap.size w w' := by
  have HF := Lib.hid hf
  obtain ⟨rfl, _, hl⟩ := hf
  obtain ⟨b, off, cap, ⟨a, rfl, _⟩, _⟩ := hl
  have HC := Lib.hid (fun o => few26_any B (w.alloc o) _ _ f (HF.out.below (box_below hB o) (Nat.le_refl _)) (by simp; omega))
  go_enter Try.func12, Try.ntmps12
  go_wp2_with (go_at_call 33; refine (HC.out _).mono ?_; rintro e w5 ⟨rfl, hb5⟩; have HB5 := Lib.hid hb5; clear hb5)
  go_ret
  exact ⟨rfl, (box_below (Nat.le_refl _) _).trans (HB5.out.mono (by simp))⟩

theorem same31_any (B : Nat) (w : World) (v v' : Value) (xs ys : List Int) (hv : IsInts B w v xs) (hv' : IsInts B w v' ys) :
    Calls Try.prog 17 #[v, v'] w fun e w' => e = .returned (.bool (sameB xs ys)) ∧ Drew w w' := by
  have HC := Lib.hid (same_any B w v v' xs ys hv hv')
  obtain ⟨b, off, cap, ⟨a, rfl, _⟩, _⟩ := hv
  obtain ⟨b', off', cap', ⟨a', rfl, _⟩, _⟩ := hv'
  go_enter Try.func17, Try.ntmps17
  go_wp2_with (go_at_call 31; refine HC.out.mono ?_; rintro e w5 ⟨rfl, hd5⟩)
  go_ret
  exact ⟨rfl, hd5⟩

/-- promise.Crowd -/
theorem crowd_any (B : Nat) (w : World) (vs vl : Value) (f : Flow) (s : Int) (hf : IsFlow B w vs vl f) (hB : B ≤ w.heap.size) (hs : I64 s) :
    Calls Try.prog 13 #[.agg #[vs, vl], .int .i64 s] w fun e w' => e = .returned (.tuple #[.int .i64 (reachR f s).length, .int .i64 (reachE f s)]) ∧ Below w.heap.size w w' := by
  have HF := Lib.hid hf
  obtain ⟨rfl, _, hl⟩ := hf
  obtain ⟨b, off, cap, ⟨a, rfl, _⟩, _⟩ := hl
  have HC := Lib.hid (fun o => rends_any B (w.alloc o) _ _ f s (HF.out.below (box_below hB o) (Nat.le_refl _)) (by simp; omega) hs)
  go_enter Try.func13, Try.ntmps13
  go_wp2_with (go_at_call 20; refine (HC.out _).mono ?_; rintro e w5 ⟨v5, rfl, ho5, hb5⟩; obtain ⟨a5, c5, rfl, _⟩ := ho5.form; have HB5 := Lib.hid hb5; clear ho5 hb5)
  go_ret2
  exact ⟨rfl, (box_below (Nat.le_refl _) _).trans (HB5.out.mono (by simp))⟩

/-- frankingref31.Crowd -/
theorem crowd31_any (B : Nat) (w : World) (vs vl : Value) (f : Flow) (s : Int) (hf : IsFlow B w vs vl f) (hB : B ≤ w.heap.size) (hs : I64 s) :
    Calls Try.prog 14 #[.agg #[vs, vl], .int .i64 s] w fun e w' => e = .returned (.tuple #[.int .i64 (reachR f s).length, .int .i64 (reachE f s)]) ∧ Below w.heap.size w w' := by
  have HF := Lib.hid hf
  obtain ⟨rfl, _, hl⟩ := hf
  obtain ⟨b, off, cap, ⟨a, rfl, _⟩, _⟩ := hl
  have HC := Lib.hid (fun o => ends26_any B (w.alloc o) _ _ f s (HF.out.below (box_below hB o) (Nat.le_refl _)) (by simp; omega) hs)
  go_enter Try.func14, Try.ntmps14
  go_wp2_with (go_at_call 34; refine (HC.out _).mono ?_; rintro e w5 ⟨v5, rfl, ho5, hb5⟩; obtain ⟨a5, c5, rfl, _⟩ := ho5.form; have HB5 := Lib.hid hb5; clear ho5 hb5)
  go_ret2
  exact ⟨rfl, (box_below (Nat.le_refl _) _).trans (HB5.out.mono (by simp))⟩

theorem isnan_any (w : World) (x : Int) :
    Calls Try.prog 93 #[.int .i64 x] w fun e w' => e = .returned (.bool false) ∧ w' = w := by
  have h : (x != x) = false := by simp
  go_enter Try.func93, Try.ntmps93
  go_wp2
  go_ret
  exact ⟨by simp, rfl⟩

def cmpI (x y : Int) : Int := if x < y then -1 else if y < x then 1 else 0
theorem compare_any (w : World) (x y : Int) :
    Calls Try.prog 73 #[.int .i64 x, .int .i64 y] w fun e w' => e = .returned (.int .i64 (cmpI x y)) ∧ w' = w := by
  by_cases h1 : x < y
  · have h1' : decide (x < y) = true := decide_eq_true h1
    have HE : Hid (cmpI x y = -1) := Lib.hid (by unfold cmpI; rw [if_pos h1])
    go_enter Try.func73, Try.ntmps73
    go_wp2_with (go_at_call 93; refine (isnan_any _ _).mono ?_; rintro e w5 ⟨rfl, rfl⟩)
    go_ret
    exact ⟨by rw [HE.out]; rfl, rfl⟩
  · have h1' : decide (x < y) = false := decide_eq_false h1
    by_cases h2 : y < x
    · have h2' : decide (y < x) = true := decide_eq_true h2
      have HE : Hid (cmpI x y = 1) := Lib.hid (by unfold cmpI; rw [if_neg h1, if_pos h2])
      go_enter Try.func73, Try.ntmps73
      go_wp2_with (go_at_call 93; refine (isnan_any _ _).mono ?_; rintro e w5 ⟨rfl, rfl⟩)
      go_ret
      exact ⟨by rw [HE.out]; rfl, rfl⟩
    · have h2' : decide (y < x) = false := decide_eq_false h2
      have HE : Hid (cmpI x y = 0) := Lib.hid (by unfold cmpI; rw [if_neg h1, if_neg h2])
      go_enter Try.func73, Try.ntmps73
      go_wp2_with (go_at_call 93; refine (isnan_any _ _).mono ?_; rintro e w5 ⟨rfl, rfl⟩)
      go_ret
      exact ⟨by rw [HE.out]; rfl, rfl⟩

theorem less_any (w : World) (x y : Int) :
    Calls Try.prog 37 #[.int .i64 x, .int .i64 y] w fun e w' => e = .returned (.bool (decide (x < y))) ∧ w' = w := by
  have hl : decide (cmpI x y < 0) = decide (x < y) := by
    unfold cmpI
    by_cases h1 : x < y
    · simp [h1]
    · by_cases h2 : y < x <;> simp [h1, h2]
  go_enter Try.func37, Try.ntmps37
  go_wp2_with (go_at_call 73; refine (compare_any _ _ _).mono ?_; rintro e w5 ⟨rfl, rfl⟩)
  go_ret
  exact ⟨rfl, rfl⟩

end Go.Proofs.Ytndcbnnbgedgcaa
