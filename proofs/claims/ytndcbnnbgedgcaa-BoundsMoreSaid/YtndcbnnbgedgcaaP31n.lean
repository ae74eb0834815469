/-
  Layer 31: the walk of PromiseSince.
-/
import Derived.Test.YtndcbnnbgedgcaaP31m
set_option linter.unusedVariables false
set_option linter.unusedSimpArgs false
namespace Go.Proofs.Ytndcbnnbgedgcaa
open Go.RowKit

theorem enough_iff {f : Flow} {s need : Int} (h : reachE f s = 0) {r m : Nat} (hr : SearchAns (enoughK f s need) (f.lots.length + 1) r) (hm : m ≤ f.lots.length) : enoughK f s need m = decide (r ≤ m) := by
  obtain ⟨h1, h2, h3⟩ := hr
  by_cases hle : r ≤ m
  · rw [decide_eq_true hle]
    rcases h3 with e | e
    · omega
    · exact enough_mono h hle hm e
  · rw [decide_eq_false hle]
    cases he : enoughK f s need m
    · rfl
    · rcases h2 with e | e
      · omega
      · rw [enough_mono h (show m ≤ r - 1 by omega) (by omega) he] at e; cases e

set_option maxHeartbeats 2000000 in
set_option maxRecDepth 100000 in
/-- PromiseSince -/
theorem promiseSince_any (B : Nat) (w : World) (vs vl : Value) (f : Flow) (s need : Int) (q : Nat) (hf : IsFlow B w vs vl f) (hB : B ≤ w.heap.size) (hs : I64 s) (hq : q ≤ 255) :
    Calls Try.prog 6 #[.agg #[vs, vl], .int .i64 s, .int .i64 need, .int .u8 q] w fun e w' => e = .returned (.bool true) ∧ Below w.heap.size w w' := by
  have HF := Lib.hid hf
  obtain ⟨rfl, ⟨hs1, hs2⟩, hl⟩ := hf
  obtain ⟨b, off, cap, ⟨a, rfl, hcap, hmax, ha⟩, hlen, hc⟩ := hl
  clear hc ha
  go_enter Try.func6, Try.ntmps6
  go_wp2_with fail
  refine (sane31_any _).mono ?_
  rintro e w1 ⟨rfl, hb1⟩
  have HX1 := Lib.hid ((Box.new w #[.int .i64 f.senders, .slice a f.lots.length cap] 24).ext hb1)
  have HW1 : Hid (Below w.heap.size w w1) := Lib.hid ((box_below (Nat.le_refl _) _).trans (hb1.mono (by simp)))
  obtain ⟨z1, r1⟩ := HX1.out
  clear hb1
  go_wp2_with fail
  refine (few31_any B w1 _ _ f (HF.out.below HW1.out hB) (by have := HW1.out.size; omega)).mono ?_
  rintro e w2 ⟨rfl, hb2⟩
  have HX2 := Lib.hid (HX1.out.ext hb2)
  have HW2 : Hid (Below w.heap.size w w2) := Lib.hid (HW1.out.trans (hb2.mono HW1.out.size))
  clear hb2 z1 r1
  cases hfew : few26 f
  · clear hfew
    go_wp2
    go_ret
    exact ⟨rfl, HW2.out⟩
  · clear hfew
    obtain ⟨z2, r2⟩ := HX2.out
    go_wp2_with fail
    refine (since_any B w2 _ _ f s need (HF.out.below HW2.out hB) (by have := HW2.out.size; omega) hs).mono ?_
    rintro e w3 ⟨n3, ok3, er3, rfl, hs3, hb3⟩
    have HX3 := Lib.hid (HX2.out.ext hb3)
    have HW3 : Hid (Below w.heap.size w w3) := Lib.hid (HW2.out.trans (hb3.mono HW2.out.size))
    clear hb3 z2 r2
    obtain ⟨z3, r3⟩ := HX3.out
    obtain ⟨rfl, h1 | ⟨h0, r, hr, h1⟩⟩ := hs3
    · obtain ⟨h2, rfl, rfl⟩ := h1
      have h2' : (reachE f s != 0) = true := by simpa using h2
      clear h2
      go_wp2
      go_ret
      exact ⟨by simp, HW3.out⟩
    · have h2' : (reachE f s != 0) = false := by simpa using h0
      have hm : q % (f.lots.length + 1) ≤ f.lots.length := by have := Nat.mod_lt q (show 0 < f.lots.length + 1 by omega); omega
      have HEN := Lib.hid (enough_iff h0 hr hm)
      have HRE : Hid (reachE (preF f (q % (f.lots.length + 1))) s = 0) := Lib.hid (reachE_pre h0 hm)
      have HR := Lib.hid hr.1
      have hrem : ((q : Int)).tmod ((f.lots.length : Int) + 1) = ((q % (f.lots.length + 1) : Nat) : Int) := by
        rw [Int.tmod_eq_emod_of_nonneg (by omega), Int.natCast_emod]; rfl
      have hne : ((f.lots.length : Int) + 1 == 0) = false := by simp; omega
      have hne2 : ¬ ((f.lots.length : Int) + 1 = 0) := by omega
      obtain ⟨m, hmm⟩ : ∃ m, q % (f.lots.length + 1) = m := ⟨_, rfl⟩
      rw [hmm] at hm HEN HRE hrem
      have HRL : Hid (((reachR (preF f m) s).length : Int) = crowdK f s m) := Lib.hid rfl
      have HX3 := HX3
      clear hmm hr h0
      rcases h1 with ⟨h4, rfl, rfl⟩ | ⟨h4, rfl, rfl⟩
      · have d1 : decide ((r : Int) < 0) = false := decide_eq_false (by omega)
        have d2 : decide ((f.lots.length : Int) < (r : Int)) = false := decide_eq_false (by omega)
        go_wp2_with fail
        refine (first_any B w3 _ _ _ f m (HF.out.below HW3.out hB) hm).mono ?_
        rintro e w4 ⟨rfl, hb4⟩
        have HW4 : Hid (Below w.heap.size w w4) := Lib.hid (HW3.out.trans (hb4.mono HW3.out.size))
        clear hb4
        go_wp2_with fail
        refine (crowd_any B w4 _ _ (preF f m) s ((HF.out.pre hm).below HW4.out hB) (by have := HW4.out.size; omega) hs).mono ?_
        rintro e w5 ⟨rfl, hb5⟩
        rw [HRE.out, HRL.out]
        have HW5 : Hid (Below w.heap.size w w5) := Lib.hid (HW4.out.trans (hb5.mono HW4.out.size))
        clear hb5 z3 r3
        have HE2 := HEN.out
        unfold enoughK at HE2
        by_cases hrm : r ≤ m
        · have k1 : decide (need ≤ crowdK f s m) = true := by rw [decide_eq_true hrm] at HE2; simp at HE2; exact decide_eq_true HE2
          have k2 : decide ((r : Int) ≤ (m : Int)) = true := decide_eq_true (by omega)
          clear HE2
          go_wp2
          go_ret
          exact ⟨by simp, HW5.out⟩
        · have k1 : decide (need ≤ crowdK f s m) = false := by rw [decide_eq_false hrm] at HE2; simp at HE2; exact decide_eq_false (by omega)
          have k2 : decide ((r : Int) ≤ (m : Int)) = false := decide_eq_false (by omega)
          clear HE2
          go_wp2
          go_ret
          exact ⟨by simp, HW5.out⟩
      · have hrm : ¬ r ≤ m := by omega
        go_wp2_with fail
        refine (first_any B w3 _ _ _ f m (HF.out.below HW3.out hB) hm).mono ?_
        rintro e w4 ⟨rfl, hb4⟩
        have HW4 : Hid (Below w.heap.size w w4) := Lib.hid (HW3.out.trans (hb4.mono HW3.out.size))
        clear hb4
        go_wp2_with fail
        refine (crowd_any B w4 _ _ (preF f m) s ((HF.out.pre hm).below HW4.out hB) (by have := HW4.out.size; omega) hs).mono ?_
        rintro e w5 ⟨rfl, hb5⟩
        rw [HRE.out, HRL.out]
        have HW5 : Hid (Below w.heap.size w w5) := Lib.hid (HW4.out.trans (hb5.mono HW4.out.size))
        clear hb5 z3 r3
        have HE2 := HEN.out
        unfold enoughK at HE2
        have k1 : decide (crowdK f s m < need) = true := by rw [decide_eq_false hrm] at HE2; simp at HE2; exact decide_eq_true HE2
        clear HE2
        go_wp2
        go_ret
        exact ⟨by simp, HW5.out⟩

end Go.Proofs.Ytndcbnnbgedgcaa
