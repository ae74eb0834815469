/-
  The walks of frankingref25.Check, Ends, Few.
-/
import Derived.Test.YtndcbnnbgedgcaaR25c
import Derived.Test.YtndcbnnbgedgcaaOwn
set_option linter.unusedVariables false
set_option linter.unusedSimpArgs false
namespace Go.Proofs.Ytndcbnnbgedgcaa
open Go.RowKit

/-- a flow that has been put into a block of its own -/
theorem box_below {B : Nat} {w : World} (hB : B ≤ w.heap.size) (o : Obj) : Below B w (w.alloc o) := (Below.refl B w).alloc hB o

set_option maxHeartbeats 1000000 in
/-- frankingref25.Check -/
theorem check25_any (B : Nat) (w : World) (vs vl : Value) (f : Flow) (hf : IsFlow B w vs vl f) (hB : B ≤ w.heap.size) :
    Calls Try.prog 32 #[.agg #[vs, vl]] w fun e w' => e = .returned (.int .i64 (checkE f)) ∧ Below w.heap.size w w' := by
  have HF := Lib.hid hf
  obtain ⟨rfl, ⟨hs1, hs2⟩, hl⟩ := hf
  have HLens := Lib.hid hl.lens
  obtain ⟨b, off, cap, ⟨a, rfl, hcap, hmax, ha⟩, hlen, hc⟩ := hl
  clear hc ha
  by_cases h1 : 64 < f.senders
  · have HT : Hid (checkE f = 2) := Lib.hid (by unfold checkE; rw [if_pos (Or.inl h1)])
    go_enter Try.func32, Try.ntmps32
    go_wp2
    go_ret
    exact ⟨by rw [HT.out]; rfl, box_below (Nat.le_refl _) _⟩
  · by_cases h2 : 2000 < f.lots.length
    · have HT : Hid (checkE f = 2) := Lib.hid (by unfold checkE; rw [if_pos (Or.inr (Or.inl h2))])
      have h2' : decide (2000 < (f.lots.length : Int)) = true := decide_eq_true (by omega)
      have h1' : decide (64 < f.senders) = false := decide_eq_false h1
      go_enter Try.func32, Try.ntmps32
      go_wp2
      go_ret
      exact ⟨by rw [HT.out]; rfl, box_below (Nat.le_refl _) _⟩
    · have h2' : decide (2000 < (f.lots.length : Int)) = false := decide_eq_false (by omega)
      have h1' : decide (64 < f.senders) = false := decide_eq_false h1
      obtain ⟨n, hn⟩ : ∃ n, beforeI f f.lots.length = n := ⟨_, rfl⟩
      have HB1 := Lib.hid (fun o => before_any B (w.alloc o) _ _ f f.lots.length (HF.out.below (box_below hB o) (Nat.le_refl _)) (by simp; omega) (Nat.le_refl _) (by omega) (by omega))
      rw [hn] at HB1
      by_cases h3 : 50000 < n
      · have HT : Hid (checkE f = 2) := Lib.hid (by unfold checkE; rw [hn, if_pos (Or.inr (Or.inr h3))])
        have h3' : decide (50000 < n) = true := decide_eq_true h3
        clear hn
        go_enter Try.func32, Try.ntmps32
        go_wp2_with (go_at_call 43; refine (HB1.out _).mono ?_; rintro e w5 ⟨rfl, hb5⟩; have HB5 := Lib.hid hb5; clear hb5)
        go_ret
        exact ⟨by rw [HT.out]; rfl, (box_below (Nat.le_refl _) _).trans (HB5.out.mono (by simp))⟩
      · have h3' : decide (50000 < n) = false := decide_eq_false h3
        by_cases h4 : f.senders < 0
        · have HT : Hid (checkE f = 250) := Lib.hid (by unfold checkE; rw [hn, if_neg (by omega), if_pos h4])
          clear hn
          go_enter Try.func32, Try.ntmps32
          go_wp2_with (go_at_call 43; refine (HB1.out _).mono ?_; rintro e w5 ⟨rfl, hb5⟩; have HB5 := Lib.hid hb5; obtain ⟨hc5, _⟩ := bcell hb5; clear hb5)
          go_ret
          exact ⟨by rw [HT.out]; rfl, (box_below (Nat.le_refl _) _).trans (HB5.out.mono (by simp))⟩
        · have HT : Hid (checkE f = if lotsB f f.lots.length then 0 else 250) := Lib.hid (by unfold checkE; rw [hn, if_neg (by omega), if_neg h4])
          clear hn
          go_enter Try.func32, Try.ntmps32
          go_wp2_with (go_at_call 43; refine (HB1.out _).mono ?_; rintro e w5 ⟨rfl, hb5⟩; have HB5 := Lib.hid hb5; obtain ⟨hc5, _⟩ := bcell hb5; clear hb5)
          have HZ := Lib.hid HB5.out.size
          have HW : Hid (Below w.heap.size w w5) := Lib.hid ((box_below (Nat.le_refl _) _).trans (HB5.out.mono (by simp)))
          have HQ : Hid (∀ W, Below w5.heap.size w5 W → W.cell? ⟨w.heap.size, 0, none⟩ = some (.int .i64 f.senders) ∧ W.cell? ⟨w.heap.size, 1, none⟩ = some (.slice a f.lots.length cap) ∧
              IsFlow B W (.int .i64 f.senders) (.slice a f.lots.length cap) f ∧ B ≤ W.heap.size) := by
            refine Lib.hid fun W hW => ?_
            have hsz := HB5.out.size
            simp at hsz
            have hsz2 := hW.size
            refine ⟨?_, ?_, HF.out.below (HW.out.trans (hW.mono (by omega))) hB, by omega⟩
            all_goals
              rw [hW.cell (by simp <;> omega), HB5.out.cell (by simp <;> omega)]
              simp [go_sem]
          clear hc5
          go_loopw [3] (fun i wr => ∃ k : Nat, k ≤ f.lots.length ∧ i = .int .i64 k ∧ lotsB f k = true ∧ Below w5.heap.size w5 wr) (fun i _ => f.lots.length - (intOf i).toNat)
          case atStart => exact ⟨0, by omega, rfl, rfl, Below.refl _ _⟩
          case round =>
            obtain ⟨k, hk, rfl, hno, hbr⟩ := hrel
            have HN := Lib.hid hno
            have HBR := Lib.hid hbr
            obtain ⟨q1, q2, q3, q4⟩ := HQ.out wr hbr
            have HQ3 := Lib.hid q3
            clear hno hbr q3
            by_cases hlt : k < f.lots.length
            · cases hlo : lotB f k
              · have HLO := Lib.hid hlo
                clear hlo
                go_wp2_with (go_at_call 67; refine (lot_any B _ _ _ f k HQ3.out q4 hlt (by omega) (by omega)).mono ?_; rintro e w6 ⟨rfl, hb6⟩; have HB6 := Lib.hid hb6; clear hb6; rw [HLO.out])
                go_ret
                exact ⟨by rw [HT.out, lotsB_false (k := k + 1) (m := f.lots.length) (by simp [lotsB, HLO.out]) (by omega)]; rfl, HW.out.trans ((HBR.out.trans (HB6.out.mono HBR.out.size)).mono HW.out.size)⟩
              · have HLO := Lib.hid hlo
                clear hlo
                go_wp2_with (go_at_call 67; refine (lot_any B _ _ _ f k HQ3.out q4 hlt (by omega) (by omega)).mono ?_; rintro e w6 ⟨rfl, hb6⟩; have HB6 := Lib.hid hb6; clear hb6; rw [HLO.out])
                go_roundw
                case rel => exact ⟨k + 1, by omega, by go_num, by simp [lotsB, HLO.out, HN.out], HBR.out.trans (HB6.out.mono HBR.out.size)⟩
                case measure => simp [intOf]; omega
            · obtain rfl : k = f.lots.length := by omega
              go_wp2
              go_ret
              exact ⟨by rw [HT.out, HN.out]; rfl, HW.out.trans (HBR.out.mono HW.out.size)⟩

end Go.Proofs.Ytndcbnnbgedgcaa
