/-
  Layer 31: the walk of PromiseSinceSpec.
-/
import Derived.Test.YtndcbnnbgedgcaaP31j
import Derived.Test.YtndcbnnbgedgcaaS31
set_option linter.unusedVariables false
set_option linter.unusedSimpArgs false
namespace Go.Proofs.Ytndcbnnbgedgcaa
open Go.RowKit

set_option maxHeartbeats 2000000 in
set_option maxRecDepth 100000 in
/-- PromiseSinceSpec -/
theorem promiseSinceSpec_any (B : Nat) (w : World) (vs vl : Value) (f : Flow) (s need : Int) (hf : IsFlow B w vs vl f) (hB : B ≤ w.heap.size) (hs : I64 s) :
    Calls Try.prog 4 #[.agg #[vs, vl], .int .i64 s, .int .i64 need] w fun e w' => e = .returned (.bool true) ∧ Below w.heap.size w w' := by
  have HF := Lib.hid hf
  obtain ⟨rfl, ⟨hs1, hs2⟩, hl⟩ := hf
  obtain ⟨b, off, cap, ⟨a, rfl, hcap, hmax, ha⟩, hlen, hc⟩ := hl
  clear hc ha
  go_enter Try.func4, Try.ntmps4
  go_wp2_with fail
  refine (sane31_any _).mono ?_
  rintro e w1 ⟨rfl, hb1⟩
  have HX1 := Lib.hid ((Box.new w #[.int .i64 f.senders, .slice a f.lots.length cap] 24).ext hb1)
  have HW1 : Hid (Below w.heap.size w w1) := Lib.hid ((box_below (Nat.le_refl _) _).trans (hb1.mono (by simp)))
  obtain ⟨z1, r1⟩ := HX1.out
  clear hb1
  go_wp2_with fail
  refine (few31_any B w1 _ _ f (HF.out.below HW1.out hB) (by have := HW1.out.size; omega)).mono ?_
  rintro e w2 ⟨rfl, hb2⟩
  have HX2 := Lib.hid (HX1.out.ext hb2)
  have HW2 : Hid (Below w.heap.size w w2) := Lib.hid (HW1.out.trans (hb2.mono HW1.out.size))
  clear hb2 z1 r1
  cases hfew : few26 f
  · clear hfew
    go_wp2
    go_ret
    exact ⟨rfl, HW2.out⟩
  · clear hfew
    obtain ⟨z2, r2⟩ := HX2.out
    go_wp2_with fail
    refine (since_any B w2 _ _ f s need (HF.out.below HW2.out hB) (by have := HW2.out.size; omega) hs).mono ?_
    rintro e w3 ⟨n3, ok3, er3, rfl, hs3, hb3⟩
    have HS3 := Lib.hid hs3
    have HX3 := Lib.hid (HX2.out.ext hb3)
    have HW3 : Hid (Below w.heap.size w w3) := Lib.hid (HW2.out.trans (hb3.mono HW2.out.size))
    clear hb3 hs3 z2 r2
    obtain ⟨z3, r3⟩ := HX3.out
    go_wp2_with fail
    refine (since31_any B w3 _ _ f s need (HF.out.below HW3.out hB) (by have := HW3.out.size; omega) hs).mono ?_
    rintro e w4 ⟨n4, ok4, er4, rfl, hs4, hb4⟩
    have HW4 : Hid (Below w.heap.size w w4) := Lib.hid (HW3.out.trans (hb4.mono HW3.out.size))
    obtain ⟨rfl, rfl, rfl⟩ := since_unique HS3.out hs4
    clear hb4 hs4 z3 r3
    go_wp2
    go_ret
    exact ⟨rfl, HW4.out⟩

end Go.Proofs.Ytndcbnnbgedgcaa
