/-
  Layer 31: the walk of PromiseSpec.
-/
import Derived.Test.YtndcbnnbgedgcaaP31j
set_option linter.unusedVariables false
set_option linter.unusedSimpArgs false
namespace Go.Proofs.Ytndcbnnbgedgcaa
open Go.RowKit

set_option maxHeartbeats 2000000 in
set_option maxRecDepth 100000 in
/-- PromiseSpec -/
theorem promiseSpec_any (B : Nat) (w : World) (vs vl vn : Value) (f : Flow) (s : Int) (need : List Int) (hf : IsFlow B w vs vl f) (hn : IsInts B w vn need) (hB : B ≤ w.heap.size) (hs : I64 s) :
    Calls Try.prog 3 #[.agg #[vs, vl], .int .i64 s, vn] w fun e w' => e = .returned (.bool true) ∧ Below w.heap.size w w' := by
  have HF := Lib.hid hf
  have HN := Lib.hid hn
  obtain ⟨rfl, ⟨hs1, hs2⟩, hl⟩ := hf
  obtain ⟨b, off, cap, ⟨a, rfl, hcap, hmax, ha⟩, hlen, hc⟩ := hl
  obtain ⟨b1, off1, cap1, ⟨a1, rfl, hcap1, hmax1, ha1⟩, hlen1, hz1, hc1⟩ := hn
  clear hc ha hc1 ha1 hz1
  go_enter Try.func3, Try.ntmps3
  go_wp2_with fail
  refine (sane31_any _).mono ?_
  rintro e w1 ⟨rfl, hb1⟩
  have HX1 := Lib.hid ((Box.new w #[.int .i64 f.senders, .slice a f.lots.length cap] 24).ext hb1)
  have HW1 : Hid (Below w.heap.size w w1) := Lib.hid ((box_below (Nat.le_refl _) _).trans (hb1.mono (by simp)))
  obtain ⟨z1, r1⟩ := HX1.out
  clear hb1
  go_wp2_with fail
  refine (few31_any B w1 _ _ f (HF.out.below HW1.out hB) (by have := HW1.out.size; omega)).mono ?_
  rintro e w2 ⟨rfl, hb2⟩
  have HX2 := Lib.hid (HX1.out.ext hb2)
  have HW2 : Hid (Below w.heap.size w w2) := Lib.hid (HW1.out.trans (hb2.mono HW1.out.size))
  clear hb2 z1 r1
  cases hfew : few26 f
  · clear hfew
    go_wp2
    go_ret
    exact ⟨rfl, HW2.out⟩
  · clear hfew
    by_cases hl80 : need.length > 80
    · have hl80' : decide ((80 : Int) < (need.length : Int)) = true := decide_eq_true (by omega)
      go_wp2
      go_ret
      exact ⟨rfl, HW2.out⟩
    · have hl80' : decide ((80 : Int) < (need.length : Int)) = false := decide_eq_false (by omega)
      obtain ⟨z2, r2⟩ := HX2.out
      go_wp2_with fail
      refine (crowd_any B w2 _ _ f s (HF.out.below HW2.out hB) (by have := HW2.out.size; omega) hs).mono ?_
      rintro e w3 ⟨rfl, hb3⟩
      have HX3 := Lib.hid (HX2.out.ext hb3)
      have HW3 : Hid (Below w.heap.size w w3) := Lib.hid (HW2.out.trans (hb3.mono HW2.out.size))
      clear hb3 z2 r2
      obtain ⟨z3, r3⟩ := HX3.out
      go_wp2_with fail
      refine (crowd31_any B w3 _ _ f s (HF.out.below HW3.out hB) (by have := HW3.out.size; omega) hs).mono ?_
      rintro e w4 ⟨rfl, hb4⟩
      have HX4 := Lib.hid (HX3.out.ext hb4)
      have HW4 : Hid (Below w.heap.size w w4) := Lib.hid (HW3.out.trans (hb4.mono HW3.out.size))
      clear hb4 z3 r3
      obtain ⟨z4, r4⟩ := HX4.out
      go_wp2_with fail
      refine (broken_any B w4 _ _ _ f need (HF.out.below HW4.out hB) (HN.out.below HW4.out hB) (by have := HW4.out.size; omega)).mono ?_
      rintro e w5 ⟨v5, rfl, ho5, hb5⟩
      have HO5 := Lib.hid ho5
      obtain ⟨a5, c5, rfl, _⟩ := ho5.form
      have HX5 := Lib.hid (HX4.out.ext hb5)
      have HW5 : Hid (Below w.heap.size w w5) := Lib.hid (HW4.out.trans (hb5.mono HW4.out.size))
      clear hb5 z4 r4 ho5
      obtain ⟨z5, r5⟩ := HX5.out
      go_wp2_with fail
      refine (broken31_any B w5 _ _ _ f need (HF.out.below HW5.out hB) (HN.out.below HW5.out hB) (by have := HW5.out.size; omega)).mono ?_
      rintro e w6 ⟨v6, rfl, ho6, hb6⟩
      have HO6 := Lib.hid ho6.isInts
      obtain ⟨a6, c6, rfl, _⟩ := ho6.form
      have HO56 := Lib.hid ((HO5.out.below hb6).isInts)
      have HW6 : Hid (Below w.heap.size w w6) := Lib.hid (HW5.out.trans (hb6.mono HW5.out.size))
      clear hb6 z5 r5 ho6
      go_wp2_with fail
      refine (same31_any _ _ _ _ _ _ HO56.out HO6.out).mono ?_
      rintro e w7 ⟨rfl, hd⟩
      have HS : Hid (sameB (brokenR f need) (brokenR f need) = true) := Lib.hid (by unfold sameB; simp)
      rw [HS.out]
      have HW7 : Hid (Below w.heap.size w w7) := Lib.hid (HW6.out.trans (hd.below _))
      clear hd
      go_wp2
      go_ret
      exact ⟨rfl, HW7.out⟩

end Go.Proofs.Ytndcbnnbgedgcaa
