/-
  Layer 31: the walk of frankingref31.Broken.
-/
import Derived.Test.YtndcbnnbgedgcaaP31a
set_option linter.unusedVariables false
set_option linter.unusedSimpArgs false
namespace Go.Proofs.Ytndcbnnbgedgcaa
open Go.RowKit

/-- how great a crowd is -/
def crowdI (f : Flow) (s : Int) : Int := (reachL f s).length
def brokenTo (f : Flow) (need : List Int) : Nat → List Int
  | 0 => []
  | k + 1 => if crowdI f k < nth need k then brokenTo f need k ++ [(k : Int)] else brokenTo f need k
theorem brokenTo_len (f : Flow) (need : List Int) : ∀ k, (brokenTo f need k).length ≤ k
  | 0 => by simp [brokenTo]
  | k + 1 => by
    have := brokenTo_len f need k
    simp only [brokenTo]
    split
    · simp; omega
    · omega
def brokenE (f : Flow) (need : List Int) : Int := if checkE f ≠ 0 then checkE f else if (need.length : Int) ≠ f.senders then 1 else 0
def brokenR (f : Flow) (need : List Int) : List Int := if brokenE f need = 0 then brokenTo f need f.senders.toNat else []
theorem reachR_at {f : Flow} (h : checkE f = 0) {s : Int} (h0 : 0 ≤ s) (h1 : s < f.senders) : reachR f s = reachL f s := by
  have : reachE f s = 0 := by unfold reachE; rw [if_neg (by simp [h]), if_neg (by omega)]
  unfold reachR; rw [if_pos this]

set_option maxHeartbeats 1000000 in
/-- frankingref31.Broken -/
theorem broken31_any (B : Nat) (w : World) (vs vl vn : Value) (f : Flow) (need : List Int) (hf : IsFlow B w vs vl f) (hn : IsInts B w vn need) (hB : B ≤ w.heap.size) :
    Calls Try.prog 16 #[.agg #[vs, vl], vn] w fun e w' => ∃ v, e = .returned (.tuple #[v, .int .i64 (brokenE f need)]) ∧ OwnInts w.heap.size w' v (brokenR f need) ∧ Below w.heap.size w w' := by
  have HF := Lib.hid hf
  obtain ⟨rfl, ⟨hs1, hs2⟩, hl⟩ := hf
  obtain ⟨b, off, cap, ⟨a, rfl, hcap, hmax, ha⟩, hlen, hc⟩ := hl
  obtain ⟨b1, off1, cap1, ⟨a1, rfl, hcap1, hmax1, ha1⟩, hlen1, hz1, hc1⟩ := hn
  have HC1 := Lib.hid hc1
  have HZ1 := Lib.hid hz1
  clear hc ha hc1 hz1
  have HC := Lib.hid (fun o => check25_any B (w.alloc o) _ _ f (HF.out.below (box_below hB o) (Nat.le_refl _)) (by simp; omega))
  by_cases h1 : checkE f = 0
  · have HK := Lib.hid (checkE_ok h1)
    have h1' : (checkE f != 0) = false := by simpa using h1
    have H1 := Lib.hid h1
    clear h1
    by_cases h2 : (need.length : Int) = f.senders
    · have h2' : ((need.length : Int) != f.senders) = false := by simpa using h2
      have HE : Hid (brokenE f need = 0) := Lib.hid (by unfold brokenE; rw [if_neg (by simp [H1.out]), if_neg (by simpa using h2)])
      have HR : Hid (brokenR f need = brokenTo f need f.senders.toNat) := Lib.hid (by unfold brokenR; rw [if_pos HE.out])
      have HN : Hid (f.senders = (need.length : Int)) := Lib.hid h2.symm
      have HN2 : Hid (f.senders.toNat = need.length) := Lib.hid (by omega)
      have hn64 : need.length ≤ 64 := by have := HK.out; omega
      clear h2
      go_enter Try.func16, Try.ntmps16
      go_wp2_with fail
      refine (HC.out _).mono ?_
      rintro e w5 ⟨rfl, hb5⟩
      have HX5 := Lib.hid ((Box.new w _ _).ext hb5)
      have HW5 : Hid (Below w.heap.size w w5) := Lib.hid ((box_below (Nat.le_refl _) _).trans (hb5.mono (by simp)))
      obtain ⟨z5, r5⟩ := HX5.out
      clear hb5
      go_wp2
      clear z5 r5
      go_loopw [7, 8] (fun v i wr => ∃ k : Nat, k ≤ need.length ∧ i = .int .i64 k ∧ OwnInts w5.heap.size wr v (brokenTo f need k) ∧ Below w5.heap.size w5 wr) (fun _ i _ => need.length - (intOf i).toNat)
      case atStart => exact ⟨0, by omega, rfl, OwnInts.nil _ _, Below.refl _ _⟩
      case round =>
        obtain ⟨k, hk, rfl, hno, hbr⟩ := hrel
        have HO := Lib.hid hno
        have HBR := Lib.hid hbr
        have hwr : w5.heap.size ≤ wr.heap.size := hbr.size
        have HXR := Lib.hid (HX5.out.ext hbr)
        obtain ⟨zr, rr⟩ := HXR.out
        have HWR : Hid (Below w.heap.size w wr) := Lib.hid (HW5.out.trans (HBR.out.mono HW5.out.size))
        clear hno hbr
        by_cases hlt : k < need.length
        · have hlt' : decide ((k : Int) < f.senders) = true := decide_eq_true (by have := HN.out; omega)
          obtain rfl : a1 = some ⟨b1, off1, none⟩ := by rcases ha1 with ha | ha; exact ha; omega
          have hb1 : b1 < w.heap.size := Nat.lt_of_lt_of_le (HC1.out k hlt).1 hB
          have HRE : Hid ((reachR f k).length = crowdI f k) := Lib.hid (by rw [reachR_at H1.out (by omega) (by have := HN.out; omega)]; rfl)
          have HLn := Lib.hid (brokenTo_len f need k)
          by_cases hg : crowdI f k < nth need k
          · have hg' : decide (crowdI f k < nth need k) = true := decide_eq_true hg
            have HS : Hid (brokenTo f need (k + 1) = brokenTo f need k ++ [(k : Int)]) := Lib.hid (by simp [brokenTo, hg])
            go_wp2_with fail
            refine (crowd31_any B wr _ _ f k (HF.out.below HWR.out hB) (by have := HWR.out.size; omega) (by unfold I64; omega)).mono ?_
            rintro e w7 ⟨rfl, hb7⟩
            have HB7 := Lib.hid hb7
            have HB57 : Hid (Below w5.heap.size w5 w7) := Lib.hid (HBR.out.trans (hb7.mono hwr))
            have hwr7 : wr.heap.size ≤ w7.heap.size := hb7.size
            have hcell := (HB57.out.cell (p := ⟨b1, off1 + k, none⟩) (by have := HW5.out.size; show b1 < _; omega)).trans ((HW5.out.cell (p := ⟨b1, off1 + k, none⟩) hb1).trans (HC1.out k hlt).2)
            rw [HRE.out]
            clear hb7 zr rr
            go_wp2_with (at_builtin; refine append_int (n := (k : Int)) rfl _ _ rfl rfl ((HO.out.below HB7.out).alloc _) rfl ?c1 ?c2 ?c3 ?c4 ?c5)
            try (case c1 => exact World.cell?_alloc_at _ _ _ _ rfl)
            try (case c2 => unfold I64; omega)
            case c3 => have := HLn.out; simp; omega
            try (case c4 => simp; omega)
            case c5 =>
              intro v' w8 ho8 hg8
              have HO8 := Lib.hid ho8
              have HW8 : Hid (Below w5.heap.size w5 w8) := Lib.hid ((HB57.out.alloc (by omega) _).grown hg8 (by simp; omega) (fun q hq => (HO.out.1.lt q hq).1))
              clear ho8 hg8
              go_wp2
              go_roundw
              case rel => exact ⟨k + 1, by omega, by go_num, by rw [HS.out]; exact HO8.out, HW8.out⟩
              case measure => simp [intOf]; omega
          · have hg' : decide (crowdI f k < nth need k) = false := decide_eq_false hg
            have HS : Hid (brokenTo f need (k + 1) = brokenTo f need k) := Lib.hid (by simp [brokenTo, hg])
            go_wp2_with fail
            refine (crowd31_any B wr _ _ f k (HF.out.below HWR.out hB) (by have := HWR.out.size; omega) (by unfold I64; omega)).mono ?_
            rintro e w7 ⟨rfl, hb7⟩
            have HB7 := Lib.hid hb7
            have HB57 : Hid (Below w5.heap.size w5 w7) := Lib.hid (HBR.out.trans (hb7.mono hwr))
            have hwr7 : wr.heap.size ≤ w7.heap.size := hb7.size
            have hcell := (HB57.out.cell (p := ⟨b1, off1 + k, none⟩) (by have := HW5.out.size; show b1 < _; omega)).trans ((HW5.out.cell (p := ⟨b1, off1 + k, none⟩) hb1).trans (HC1.out k hlt).2)
            rw [HRE.out]
            clear hb7 zr rr
            go_wp2
            go_roundw
            case rel => exact ⟨k + 1, by omega, by go_num, by rw [HS.out]; exact HO.out.below HB7.out, HB57.out⟩
            case measure => simp [intOf]; omega
        · have hlt' : decide ((k : Int) < f.senders) = false := decide_eq_false (by have := HN.out; omega)
          obtain rfl : k = need.length := by omega
          go_wp2
          go_ret2
          exact ⟨_, by rw [HE.out]; rfl, by rw [HR.out, HN2.out]; exact HO.out.mono HW5.out.size, HWR.out⟩
    · have h2' : ((need.length : Int) != f.senders) = true := by simpa using h2
      have HE : Hid (brokenE f need = 1) := Lib.hid (by unfold brokenE; rw [if_neg (by simp [H1.out]), if_pos h2])
      have HR : Hid (brokenR f need = []) := Lib.hid (by unfold brokenR; rw [HE.out]; rfl)
      go_enter Try.func16, Try.ntmps16
      go_wp2_with (go_at_call 32; refine (HC.out _).mono ?_; rintro e w5 ⟨rfl, hb5⟩; have HB5 := Lib.hid hb5; have HX5 := Lib.hid ((Box.new w _ _).ext hb5); obtain ⟨z5, r5⟩ := HX5.out; clear hb5)
      go_ret2
      exact ⟨_, by rw [HE.out]; rfl, by rw [HR.out]; exact OwnInts.nil _ _, (box_below (Nat.le_refl _) _).trans (HB5.out.mono (by simp))⟩
  · have HE : Hid (brokenE f need = checkE f) := Lib.hid (by unfold brokenE; rw [if_pos h1])
    have HR : Hid (brokenR f need = []) := Lib.hid (by unfold brokenR; rw [HE.out, if_neg h1])
    have h1' : (checkE f != 0) = true := by simpa using h1
    clear h1
    go_enter Try.func16, Try.ntmps16
    go_wp2_with (go_at_call 32; refine (HC.out _).mono ?_; rintro e w5 ⟨rfl, hb5⟩; have HB5 := Lib.hid hb5; clear hb5)
    go_ret2
    exact ⟨_, by rw [HE.out]; rfl, by rw [HR.out]; exact OwnInts.nil _ _, (box_below (Nat.le_refl _) _).trans (HB5.out.mono (by simp))⟩

end Go.Proofs.Ytndcbnnbgedgcaa
