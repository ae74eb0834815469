/-
  Layer 31: the walk of PromiseBroken.
-/
import Derived.Test.YtndcbnnbgedgcaaP31j
import Derived.Test.YtndcbnnbgedgcaaS31
set_option linter.unusedVariables false
set_option linter.unusedSimpArgs false
namespace Go.Proofs.Ytndcbnnbgedgcaa
open Go.RowKit

theorem pre_all (f : Flow) : preF f f.lots.length = f := by
  obtain ⟨n, ls⟩ := f
  simp [preF]
theorem crowd_pos {f : Flow} {s : Int} (h : reachE f s = 0) : 1 ≤ (reachR f s).length := by
  have h0 := crowdK_mono h (Nat.zero_le f.lots.length) (Nat.le_refl _)
  have h1 : 1 ≤ (reachL (preF f 0) s).length := by
    have hm : s ∈ reachL (preF f 0) s := by
      rw [reachL_pre_mem (by omega)]
      have := reachE_ok h
      exact ⟨by omega, by simp only [beforeI]; omega, rfl, by simp [spotsTo]⟩
    exact List.length_pos_of_mem hm
  rw [crowdK_eq h (Nat.zero_le _)] at h0
  unfold crowdK at h0
  rw [pre_all] at h0
  omega
theorem brokenTo_prefix (f : Flow) (need : List Int) {k m : Nat} (h : k ≤ m) : ∃ t, brokenTo f need m = brokenTo f need k ++ t := by
  induction h with
  | refl => exact ⟨[], by simp⟩
  | @step m _ ih =>
    obtain ⟨t, ht⟩ := ih
    simp only [brokenTo]
    split
    · exact ⟨t ++ [(m : Int)], by rw [ht, List.append_assoc]⟩
    · exact ⟨t, ht⟩
theorem brokenTo_at (f : Flow) (need : List Int) {k m : Nat} (h : k < m) (hg : crowdI f k < nth need k) : nth (brokenTo f need m) (brokenTo f need k).length = k ∧ (brokenTo f need k).length < (brokenTo f need m).length := by
  obtain ⟨t, ht⟩ := brokenTo_prefix f need (show k + 1 ≤ m from h)
  have e : brokenTo f need (k + 1) = brokenTo f need k ++ [(k : Int)] := by simp [brokenTo, hg]
  rw [e] at ht
  rw [ht]
  constructor
  · unfold nth; simp
  · simp
theorem brokenE_ok {f : Flow} {need : List Int} (h : brokenE f need = 0) : checkE f = 0 ∧ (need.length : Int) = f.senders := by
  unfold brokenE at h
  split at h
  · rename_i hc; exact absurd h hc
  · rename_i hc
    split at h
    · simp at h
    · rename_i hs; exact ⟨by simpa using hc, by simpa using hs⟩

set_option maxHeartbeats 2000000 in
set_option maxRecDepth 100000 in
/-- PromiseBroken -/
theorem promiseBroken_any (B : Nat) (w : World) (vs vl vn : Value) (f : Flow) (need : List Int) (hf : IsFlow B w vs vl f) (hn : IsInts B w vn need) (hB : B ≤ w.heap.size) :
    Calls Try.prog 5 #[.agg #[vs, vl], vn] w fun e w' => e = .returned (.bool true) ∧ Below w.heap.size w w' := by
  have HF := Lib.hid hf
  have HN := Lib.hid hn
  obtain ⟨rfl, ⟨hs1, hs2⟩, hl⟩ := hf
  obtain ⟨b, off, cap, ⟨a, rfl, hcap, hmax, ha⟩, hlen, hc⟩ := hl
  obtain ⟨b1, off1, cap1, ⟨a1, rfl, hcap1, hmax1, ha1⟩, hlen1, hz1, hc1⟩ := hn
  have HC1 := Lib.hid hc1
  clear hc ha hc1 hz1
  go_enter Try.func5, Try.ntmps5
  go_wp2_with fail
  refine (sane31_any _).mono ?_
  rintro e w1 ⟨rfl, hb1⟩
  have HX1 := Lib.hid ((Box.new w #[.int .i64 f.senders, .slice a f.lots.length cap] 24).ext hb1)
  have HW1 : Hid (Below w.heap.size w w1) := Lib.hid ((box_below (Nat.le_refl _) _).trans (hb1.mono (by simp)))
  obtain ⟨z1, r1⟩ := HX1.out
  clear hb1
  go_wp2_with fail
  refine (few31_any B w1 _ _ f (HF.out.below HW1.out hB) (by have := HW1.out.size; omega)).mono ?_
  rintro e w2 ⟨rfl, hb2⟩
  have HX2 := Lib.hid (HX1.out.ext hb2)
  have HW2 : Hid (Below w.heap.size w w2) := Lib.hid (HW1.out.trans (hb2.mono HW1.out.size))
  clear hb2 z1 r1
  cases hfew : few26 f
  · clear hfew
    go_wp2
    go_ret
    exact ⟨rfl, HW2.out⟩
  · clear hfew
    by_cases hl80 : need.length > 80
    · have hl80' : decide ((80 : Int) < (need.length : Int)) = true := decide_eq_true (by omega)
      go_wp2
      go_ret
      exact ⟨rfl, HW2.out⟩
    · have hl80' : decide ((80 : Int) < (need.length : Int)) = false := decide_eq_false (by omega)
      obtain ⟨z2, r2⟩ := HX2.out
      go_wp2_with fail
      refine (broken_any B w2 _ _ _ f need (HF.out.below HW2.out hB) (HN.out.below HW2.out hB) (by have := HW2.out.size; omega)).mono ?_
      rintro e w5 ⟨v5, rfl, ho5, hb5⟩
      have HI5 := Lib.hid ho5.isInts
      have HX5 := Lib.hid (HX2.out.ext hb5)
      have HW5 : Hid (Below w.heap.size w w5) := Lib.hid (HW2.out.trans (hb5.mono HW2.out.size))
      clear hb5 z2 r2
      by_cases h1 : brokenE f need = 0
      · have h1' : (brokenE f need != 0) = false := by simpa using h1
        have HOK := Lib.hid (brokenE_ok h1)
        have HRT : Hid (brokenR f need = brokenTo f need need.length) := Lib.hid (by unfold brokenR; rw [if_pos h1, ← (brokenE_ok h1).2]; rfl)
        rw [HRT.out] at HI5
        clear h1 ho5
        obtain ⟨b5, off5, cap5, ⟨a5, rfl, hcap5, hmax5, ha5⟩, hlen5, hz5, hc5⟩ := HI5.out
        have HC5 := Lib.hid hc5
        clear hc5 hz5
        have hne : ((need.length : Int) != f.senders) = false := by have := HOK.out.2; simp [this]
        obtain ⟨z5, r5⟩ := HX5.out
        obtain ⟨L, hL⟩ : ∃ L, brokenTo f need need.length = L := ⟨_, rfl⟩
        have HAT := Lib.hid (fun k (hk : k < need.length) hg => brokenTo_at f need hk hg)
        have HLN := Lib.hid (brokenTo_len f need)
        rw [hL] at HAT HC5 hcap5 ha5 hlen5 ⊢
        have HLL := Lib.hid hL
        clear hL HI5 HRT
        go_wp2
        clear z5 r5
        go_loopw [7, 8] (fun va vi wr => ∃ i : Nat, i ≤ need.length ∧ vi = .int .i64 i ∧ va = .int .i64 ((brokenTo f need i).length : Int) ∧ Below w5.heap.size w5 wr) (fun _ vi _ => need.length - (intOf vi).toNat)
        case atStart => exact ⟨0, by omega, rfl, rfl, Below.refl _ _⟩
        case round =>
          obtain ⟨i, hi, rfl, rfl, hbr⟩ := hrel
          have HBR := Lib.hid hbr
          have HXR := Lib.hid (HX5.out.ext hbr)
          have HWR : Hid (Below w.heap.size w wr) := Lib.hid (HW5.out.trans (HBR.out.mono HW5.out.size))
          obtain ⟨zr, rr⟩ := HXR.out
          clear hbr
          by_cases hlt : i < need.length
          · have hE : reachE f i = 0 := by unfold reachE; rw [if_neg (by simp [HOK.out.1]), if_neg (by have := HOK.out.2; omega)]
            have HP := Lib.hid (crowd_pos hE)
            have HRL : Hid (((reachR f i).length : Int) = crowdI f i) := Lib.hid (by rw [reachR_at HOK.out.1 (by omega) (by have := HOK.out.2; omega)]; rfl)
            have HE := Lib.hid hE
            clear hE
            go_wp2_with fail
            refine (crowd_any B wr _ _ f i (HF.out.below HWR.out hB) (by have := HWR.out.size; omega) (by unfold I64; omega)).mono ?_
            rintro e w6 ⟨rfl, hb6⟩
            have HX6 := Lib.hid (HXR.out.ext hb6)
            have HW6 : Hid (Below w.heap.size w w6) := Lib.hid (HWR.out.trans (hb6.mono HWR.out.size))
            have HB6 : Hid (Below w5.heap.size w5 w6) := Lib.hid (HBR.out.trans (hb6.mono HBR.out.size))
            clear hb6 zr rr
            obtain ⟨z6, r6⟩ := HX6.out
            go_wp2_with fail
            refine (rends_any B w6 _ _ f i (HF.out.below HW6.out hB) (by have := HW6.out.size; omega) (by unfold I64; omega)).mono ?_
            rintro e w7 ⟨v7, rfl, ho7, hb7⟩
            have HW7 : Hid (Below w.heap.size w w7) := Lib.hid (HW6.out.trans (hb7.mono HW6.out.size))
            have HB7 : Hid (Below w5.heap.size w5 w7) := Lib.hid (HB6.out.trans (hb7.mono HB6.out.size))
            obtain ⟨a7, c7, rfl, _⟩ := ho7.form
            rw [HE.out, HRL.out]
            have hc1p : 1 ≤ crowdI f i := by have := HP.out; have := HRL.out; omega
            have hcl : decide (crowdI f i < 1) = false := decide_eq_false (by omega)
            have hnn : (crowdI f i != ((reachR f i).length : Int)) = false := by rw [HRL.out]; simp
            obtain rfl : a1 = some ⟨b1, off1, none⟩ := by rcases ha1 with ha | ha; exact ha; omega
            have hb1 : b1 < w.heap.size := Nat.lt_of_lt_of_le (HC1.out i hlt).1 hB
            have hcell := (HW7.out.cell (p := ⟨b1, off1 + i, none⟩) hb1).trans (HC1.out i hlt).2
            clear hb7 ho7 z6 r6
            by_cases hg : crowdI f i < nth need i
            · have hg' : decide (crowdI f i < nth need i) = true := decide_eq_true hg
              obtain ⟨g1, g2⟩ := HAT.out i hlt hg
              have HS : Hid ((brokenTo f need (i + 1)).length = (brokenTo f need i).length + 1) := Lib.hid (by simp [brokenTo, hg])
              have hq := HLN.out i
              obtain ⟨q, hqe⟩ : ∃ q, (brokenTo f need i).length = q := ⟨_, rfl⟩
              rw [hqe] at g1 g2 HS hq ⊢
              obtain rfl : a5 = some ⟨b5, off5, none⟩ := by rcases ha5 with ha | ha; exact ha; omega
              have hcell5 := (HB7.out.cell (p := ⟨b5, off5 + q, none⟩) (HC5.out q g2).1).trans (HC5.out q g2).2
              rw [g1] at hcell5
              have hge : decide ((L.length : Int) ≤ (q : Int)) = false := decide_eq_false (by omega)
              clear hqe g1
              go_wp2
              go_roundw
              case rel => exact ⟨i + 1, by omega, by go_num, by rw [HS.out]; go_num, HB7.out⟩
              case measure => simp [intOf]; omega
            · have hg' : decide (crowdI f i < nth need i) = false := decide_eq_false hg
              have HS : Hid (brokenTo f need (i + 1) = brokenTo f need i) := Lib.hid (by simp [brokenTo, hg])
              go_wp2
              go_roundw
              case rel => exact ⟨i + 1, by omega, by go_num, by rw [HS.out], HB7.out⟩
              case measure => simp [intOf]; omega
          · obtain rfl : i = need.length := by omega
            rw [HLL.out]
            have hee : ((L.length : Int) == (L.length : Int)) = true := by simp
            go_wp2
            go_ret
            exact ⟨by simp, HWR.out⟩
      · have h1' : (brokenE f need != 0) = true := by simpa using h1
        have HR : brokenR f need = [] := by unfold brokenR; rw [if_neg h1]
        rw [HR] at ho5
        obtain ⟨a5, c5, rfl, _⟩ := ho5.form
        clear h1 ho5 HR
        go_wp2
        go_ret
        exact ⟨by simp, HW5.out⟩

end Go.Proofs.Ytndcbnnbgedgcaa
