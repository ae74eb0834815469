/-
  Layer 31: the walk of frankingref31.Since.
-/
import Derived.Test.YtndcbnnbgedgcaaP31h
set_option linter.unusedVariables false
set_option linter.unusedSimpArgs false
namespace Go.Proofs.Ytndcbnnbgedgcaa
open Go.RowKit

set_option maxHeartbeats 1000000 in
/-- frankingref31.Since -/
theorem since31_any (B : Nat) (w : World) (vs vl : Value) (f : Flow) (s need : Int) (hf : IsFlow B w vs vl f) (hB : B ≤ w.heap.size) (hs : I64 s) :
    Calls Try.prog 19 #[.agg #[vs, vl], .int .i64 s, .int .i64 need] w fun e w' => ∃ n ok er, e = .returned (.tuple #[.int .i64 n, .bool ok, .int .i64 er]) ∧ SinceAns f s need n ok er ∧ Below w.heap.size w w' := by
  have HF := Lib.hid hf
  obtain ⟨rfl, ⟨hs1, hs2⟩, hl⟩ := hf
  obtain ⟨b, off, cap, ⟨a, rfl, hcap, hmax, ha⟩, hlen, hc⟩ := hl
  clear hc ha
  have HC := Lib.hid (fun o => check25_any B (w.alloc o) _ _ f (HF.out.below (box_below hB o) (Nat.le_refl _)) (by simp; omega))
  by_cases h1 : checkE f = 0
  · have h1' : (checkE f != 0) = false := by simpa using h1
    have H1 := Lib.hid h1
    clear h1
    by_cases h2 : s < 0
    · have h2' : decide (s < 0) = true := decide_eq_true h2
      have HE : Hid (reachE f s = 1) := Lib.hid (by unfold reachE; rw [if_neg (by simp [H1.out]), if_pos (Or.inl h2)])
      go_enter Try.func19, Try.ntmps19
      go_wp2_with (go_at_call 32; refine (HC.out _).mono ?_; rintro e w5 ⟨rfl, hb5⟩; have HB5 := Lib.hid hb5; clear hb5)
      refine bodyPost_ret (v := .tuple #[.int .i64 0, .bool false, .int .i64 1]) (by simp [results, Try.results19, go_sem]) rfl ?_
      exact ⟨_, _, _, rfl, ⟨HE.out.symm, Or.inl ⟨by rw [HE.out]; decide, rfl, rfl⟩⟩, (box_below (Nat.le_refl _) _).trans (HB5.out.mono (by simp))⟩
    · have h2' : decide (s < 0) = false := decide_eq_false h2
      by_cases h3 : f.senders ≤ s
      · have h3' : decide (f.senders ≤ s) = true := decide_eq_true h3
        have HE : Hid (reachE f s = 1) := Lib.hid (by unfold reachE; rw [if_neg (by simp [H1.out]), if_pos (Or.inr h3)])
        go_enter Try.func19, Try.ntmps19
        go_wp2_with (go_at_call 32; refine (HC.out _).mono ?_; rintro e w5 ⟨rfl, hb5⟩; have HB5 := Lib.hid hb5; have HX := Lib.hid ((Box.new w _ _).ext hb5); obtain ⟨z5, r5⟩ := HX.out; clear hb5)
        refine bodyPost_ret (v := .tuple #[.int .i64 0, .bool false, .int .i64 1]) (by simp [results, Try.results19, go_sem]) rfl ?_
        exact ⟨_, _, _, rfl, ⟨HE.out.symm, Or.inl ⟨by rw [HE.out]; decide, rfl, rfl⟩⟩, (box_below (Nat.le_refl _) _).trans (HB5.out.mono (by simp))⟩
      · have h3' : decide (f.senders ≤ s) = false := decide_eq_false h3
        have HE : Hid (reachE f s = 0) := Lib.hid (by unfold reachE; rw [if_neg (by simp [H1.out]), if_neg (by omega)])
        go_enter Try.func19, Try.ntmps19
        go_wp2_with fail
        refine (HC.out _).mono ?_
        rintro e w5 ⟨rfl, hb5⟩
        have HX5 := Lib.hid ((Box.new w _ _).ext hb5)
        have HW5 : Hid (Below w.heap.size w w5) := Lib.hid ((box_below (Nat.le_refl _) _).trans (hb5.mono (by simp)))
        obtain ⟨z5, r5⟩ := HX5.out
        clear hb5
        go_wp2
        clear z5 r5
        go_loopw [10] (fun i wr => ∃ k : Nat, k ≤ f.lots.length + 1 ∧ i = .int .i64 k ∧ (∀ j, j < k → enoughK f s need j = false) ∧ Below w5.heap.size w5 wr) (fun i _ => f.lots.length + 1 - (intOf i).toNat)
        case atStart => exact ⟨0, by omega, rfl, fun j hj => by omega, Below.refl _ _⟩
        case round =>
          obtain ⟨k, hk, rfl, hall, hbr⟩ := hrel
          have HALL := Lib.hid hall
          have HBR := Lib.hid hbr
          have hwr : w5.heap.size ≤ wr.heap.size := hbr.size
          obtain ⟨zr, rr⟩ := HX5.out.ext hbr
          have HWR : Hid (Below w.heap.size w wr) := Lib.hid (HW5.out.trans (HBR.out.mono HW5.out.size))
          clear hall hbr
          by_cases hlt : k ≤ f.lots.length
          · have hlt' : decide ((k : Int) ≤ (f.lots.length : Int)) = true := decide_eq_true (by omega)
            have HFR := Lib.hid (HF.out.below HWR.out hB)
            have HRL : Hid (((reachR (preF f k) s).length : Int) = crowdK f s k) := Lib.hid rfl
            by_cases hg : need ≤ crowdK f s k
            · have hg' : decide (need ≤ crowdK f s k) = true := decide_eq_true hg
              have HEN : Hid (enoughK f s need k = true) := Lib.hid (by unfold enoughK; simp; exact hg)
              go_wp2_with (first
                | (go_at_call 21; refine (first_any B wr _ _ _ f k HFR.out hlt).mono ?_; rintro e w6 ⟨rfl, hb6⟩; have HB6 := Lib.hid hb6; clear hb6)
                | (go_at_call 14; refine (crowd31_any B w6 _ _ (preF f k) s ((HFR.out.pre hlt).below (HB6.out.mono (by have := HWR.out.size; omega)) (Nat.le_refl _)) (by have := HWR.out.size; have := HB6.out.size; omega) hs).mono ?_; rintro e w7 ⟨rfl, hb7⟩; have HB7 := Lib.hid hb7; clear hb7; rw [HRL.out]))
              refine bodyPost_ret (v := .tuple #[.int .i64 k, .bool true, .int .i64 0]) (by simp [results, Try.results19, go_sem]) rfl ?_
              refine ⟨_, _, _, rfl, ⟨HE.out.symm, Or.inr ⟨HE.out, k, ⟨hk, ?_, Or.inr HEN.out⟩, Or.inl ⟨hlt, rfl, rfl⟩⟩⟩, HWR.out.trans ((HB6.out.trans (HB7.out.mono HB6.out.size)).mono HWR.out.size)⟩
              by_cases hk0 : k = 0
              · exact Or.inl hk0
              · exact Or.inr (HALL.out _ (by omega))
            · have hg' : decide (need ≤ crowdK f s k) = false := decide_eq_false hg
              have HEN : Hid (enoughK f s need k = false) := Lib.hid (by unfold enoughK; simp; omega)
              go_wp2_with (first
                | (go_at_call 21; refine (first_any B wr _ _ _ f k HFR.out hlt).mono ?_; rintro e w6 ⟨rfl, hb6⟩; have HB6 := Lib.hid hb6; clear hb6)
                | (go_at_call 14; refine (crowd31_any B w6 _ _ (preF f k) s ((HFR.out.pre hlt).below (HB6.out.mono (by have := HWR.out.size; omega)) (Nat.le_refl _)) (by have := HWR.out.size; have := HB6.out.size; omega) hs).mono ?_; rintro e w7 ⟨rfl, hb7⟩; have HB7 := Lib.hid hb7; clear hb7; rw [HRL.out]))
              go_roundw
              case rel =>
                refine ⟨k + 1, by omega, by go_num, fun j hj => ?_, HBR.out.trans ((HB6.out.trans (HB7.out.mono HB6.out.size)).mono hwr)⟩
                by_cases e : j = k
                · rw [e]; exact HEN.out
                · exact HALL.out _ (by omega)
              case measure => simp [intOf]; omega
          · have hlt' : decide ((k : Int) ≤ (f.lots.length : Int)) = false := decide_eq_false (by omega)
            obtain rfl : k = f.lots.length + 1 := by omega
            go_wp2
            refine bodyPost_ret (v := .tuple #[.int .i64 0, .bool false, .int .i64 0]) (by simp [results, Try.results19, go_sem]) rfl ?_
            exact ⟨_, _, _, rfl, ⟨HE.out.symm, Or.inr ⟨HE.out, _, ⟨Nat.le_refl _, Or.inr (HALL.out _ (by omega)), Or.inl rfl⟩, Or.inr ⟨by omega, rfl, rfl⟩⟩⟩, HWR.out⟩
  · have HE : Hid (reachE f s = checkE f) := Lib.hid (by unfold reachE; rw [if_pos h1])
    have h1' : (checkE f != 0) = true := by simpa using h1
    have H1 := Lib.hid h1
    clear h1
    go_enter Try.func19, Try.ntmps19
    go_wp2_with (go_at_call 32; refine (HC.out _).mono ?_; rintro e w5 ⟨rfl, hb5⟩; have HB5 := Lib.hid hb5; clear hb5)
    refine bodyPost_ret (v := .tuple #[.int .i64 0, .bool false, .int .i64 (checkE f)]) (by simp [results, Try.results19, go_sem]) rfl ?_
    exact ⟨_, _, _, rfl, ⟨HE.out.symm, Or.inl ⟨by rw [HE.out]; exact H1.out, rfl, rfl⟩⟩, (box_below (Nat.le_refl _) _).trans (HB5.out.mono (by simp))⟩

end Go.Proofs.Ytndcbnnbgedgcaa
