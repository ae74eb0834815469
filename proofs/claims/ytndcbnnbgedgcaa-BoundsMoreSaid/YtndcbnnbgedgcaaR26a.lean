/-
  The walks of frankingref26.Few, follow.
-/
import Derived.Test.YtndcbnnbgedgcaaR25e
import Derived.Test.YtndcbnnbgedgcaaS26
set_option linter.unusedVariables false
set_option linter.unusedSimpArgs false
namespace Go.Proofs.Ytndcbnnbgedgcaa
open Go.RowKit

/-- frankingref26.Few -/
theorem few26_any (B : Nat) (w : World) (vs vl : Value) (f : Flow) (hf : IsFlow B w vs vl f) (hB : B ≤ w.heap.size) :
    Calls Try.prog 33 #[.agg #[vs, vl]] w fun e w' => e = .returned (.bool (few26 f)) ∧ Below w.heap.size w w' := by
  have HF := Lib.hid hf
  obtain ⟨rfl, ⟨hs1, hs2⟩, hl⟩ := hf
  obtain ⟨b, off, cap, ⟨a, rfl, hcap, hmax, ha⟩, hlen, hc⟩ := hl
  clear hc ha
  have HC := Lib.hid (fun o => few25_any B (w.alloc o) _ _ f (HF.out.below (box_below hB o) (Nat.le_refl _)) (by simp; omega))
  cases h1 : few25 f
  · have HT : Hid (few26 f = false) := Lib.hid (by unfold few26; rw [h1]; rfl)
    have H1 := Lib.hid h1
    clear h1
    go_enter Try.func33, Try.ntmps33
    go_wp2_with (go_at_call 56; refine (HC.out _).mono ?_; rintro e w5 ⟨rfl, hb5⟩; rw [H1.out]; have HB5 := Lib.hid hb5; clear hb5)
    go_ret
    exact ⟨by rw [HT.out]; rfl, (box_below (Nat.le_refl _) _).trans (HB5.out.mono (by simp))⟩
  · have H1 := Lib.hid h1
    clear h1
    have HT : Hid (few26 f = (decide ((f.lots.length : Int) ≤ 12) && (decide (f.senders ≤ 12) || decide (64 < f.senders)))) := by
      refine Lib.hid ?_
      unfold few26; rw [H1.out, Bool.true_and]; congr 1; rw [decide_eq_decide]; omega
    by_cases h2 : (f.lots.length : Int) ≤ 12
    · have h2' : decide ((f.lots.length : Int) ≤ 12) = true := decide_eq_true h2
      by_cases h3 : f.senders ≤ 12
      · have h3' : decide (f.senders ≤ 12) = true := decide_eq_true h3
        have HU : Hid (few26 f = true) := Lib.hid (by rw [HT.out, h2', h3']; rfl)
        go_enter Try.func33, Try.ntmps33
        go_wp2_with (go_at_call 56; refine (HC.out _).mono ?_; rintro e w5 ⟨rfl, hb5⟩; rw [H1.out]; have HB5 := Lib.hid hb5; have HX := Lib.hid ((Box.new w _ _).ext hb5); obtain ⟨z5, r5⟩ := HX.out; clear hb5)
        go_ret
        exact ⟨by rw [HU.out]; rfl, (box_below (Nat.le_refl _) _).trans (HB5.out.mono (by simp))⟩
      · have h3' : decide (f.senders ≤ 12) = false := decide_eq_false h3
        have HU : Hid (few26 f = decide (64 < f.senders)) := Lib.hid (by rw [HT.out, h2', h3']; rfl)
        go_enter Try.func33, Try.ntmps33
        go_wp2_with (go_at_call 56; refine (HC.out _).mono ?_; rintro e w5 ⟨rfl, hb5⟩; rw [H1.out]; have HB5 := Lib.hid hb5; have HX := Lib.hid ((Box.new w _ _).ext hb5); obtain ⟨z5, r5⟩ := HX.out; clear hb5)
        go_ret
        exact ⟨by rw [HU.out]; rfl, (box_below (Nat.le_refl _) _).trans (HB5.out.mono (by simp))⟩
    · have h2' : decide ((f.lots.length : Int) ≤ 12) = false := decide_eq_false h2
      have HU : Hid (few26 f = false) := Lib.hid (by rw [HT.out, h2']; rfl)
      go_enter Try.func33, Try.ntmps33
      go_wp2_with (go_at_call 56; refine (HC.out _).mono ?_; rintro e w5 ⟨rfl, hb5⟩; rw [H1.out]; have HB5 := Lib.hid hb5; have HX := Lib.hid ((Box.new w _ _).ext hb5); obtain ⟨z5, r5⟩ := HX.out; clear hb5)
      go_ret
      exact ⟨by rw [HU.out]; rfl, (box_below (Nat.le_refl _) _).trans (HB5.out.mono (by simp))⟩

end Go.Proofs.Ytndcbnnbgedgcaa
