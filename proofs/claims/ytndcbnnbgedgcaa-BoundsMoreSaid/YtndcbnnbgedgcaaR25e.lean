/-
  The walks of frankingref25.Ends, Few.
-/
import Derived.Test.YtndcbnnbgedgcaaR25d
set_option linter.unusedVariables false
set_option linter.unusedSimpArgs false
namespace Go.Proofs.Ytndcbnnbgedgcaa
open Go.RowKit

set_option maxHeartbeats 1000000 in
/-- frankingref25.Ends -/
theorem ends25_any (B : Nat) (w : World) (vs vl : Value) (f : Flow) (hf : IsFlow B w vs vl f) (hB : B ≤ w.heap.size) :
    Calls Try.prog 22 #[.agg #[vs, vl]] w fun e w' => ∃ v, e = .returned (.tuple #[v, .int .i64 (checkE f)]) ∧ OwnInts w.heap.size w' v (endsR f) ∧ Below w.heap.size w w' := by
  have HF := Lib.hid hf
  obtain ⟨rfl, ⟨hs1, hs2⟩, hl⟩ := hf
  have HLens := Lib.hid hl.lens
  obtain ⟨b, off, cap, ⟨a, rfl, hcap, hmax, ha⟩, hlen, hc⟩ := hl
  clear hc ha
  have HC := Lib.hid (fun o => check25_any B (w.alloc o) _ _ f (HF.out.below (box_below hB o) (Nat.le_refl _)) (by simp; omega))
  by_cases h1 : checkE f = 0
  · have HK := Lib.hid (checkE_ok h1)
    have HT : Hid (endsR f = endsL f) := Lib.hid (by unfold endsR; rw [if_pos h1])
    have h1' : (checkE f != 0) = false := by simpa using h1
    have H1 := Lib.hid h1
    clear h1
    go_enter Try.func22, Try.ntmps22
    go_wp2_with fail
    refine (HC.out _).mono ?_
    rintro e w5 ⟨rfl, hb5⟩
    have HB5 := Lib.hid hb5
    have HX5 := Lib.hid ((Box.new w _ _).ext hb5)
    have HW5 : Hid (Below w.heap.size w w5) := Lib.hid ((box_below (Nat.le_refl _) _).trans (hb5.mono (by simp)))
    obtain ⟨z5, r5⟩ := HX5.out
    clear hb5
    go_wp2_with fail
    refine (before_any B _ _ _ f f.lots.length (HF.out.below (HW5.out.trans (box_below (by have := HW5.out.size; omega) _)) hB) (by simp; omega) (Nat.le_refl _) HK.out.2.2.1 HK.out.2.1).mono ?_
    rintro e w6 ⟨rfl, hb6⟩
    have HO6 := Lib.hid ((OwnInts.made (w := w5) (Nat.le_refl _)).below hb6)
    have HX6 := Lib.hid ((HX5.out.alloc _).ext hb6)
    have HW6 : Hid (Below w5.heap.size w5 w6) := Lib.hid ((box_below (Nat.le_refl _) _).trans (hb6.mono (by simp)))
    have HWW : Hid (Below w.heap.size w w6) := Lib.hid (HW5.out.trans (HW6.out.mono HW5.out.size))
    clear hb6 z5 r5
    have HN : Hid (beforeI f f.lots.length = ((beforeI f f.lots.length).toNat : Int)) := Lib.hid (by have := beforeI_mono (f := f) (Nat.zero_le f.lots.length); have := HK.out; simp only [beforeI] at *; omega)
    obtain ⟨n, hn⟩ : ∃ n, (beforeI f f.lots.length).toNat = n := ⟨_, rfl⟩
    rw [hn] at HN
    have hn5 : n ≤ 50000 := by have := HN.out; have := HK.out; omega
    have HL : Hid (endsL f = endsTo f n) := Lib.hid (by unfold endsL; rw [hn])
    clear hn
    rw [HN.out]
    go_wp2
    go_loopw [5, 7] (fun v i wr => ∃ k : Nat, k ≤ n ∧ i = .int .i64 k ∧ OwnInts w5.heap.size wr v (endsTo f k) ∧ Below w5.heap.size w5 wr) (fun _ i _ => n - (intOf i).toNat)
    case atStart => exact ⟨0, by omega, rfl, HO6.out, HW6.out⟩
    case round =>
      obtain ⟨k, hk, rfl, hno, hbr⟩ := hrel
      have HO := Lib.hid hno
      have HBR := Lib.hid hbr
      have HWR : Hid (Below w.heap.size w wr) := Lib.hid (HW5.out.trans (HBR.out.mono HW5.out.size))
      obtain ⟨zr, rr⟩ := HX5.out.ext hbr
      have HXR := Lib.hid (HX5.out.ext hbr)
      clear hno hbr
      by_cases hlt : k < n
      · have hBw : B ≤ wr.heap.size := by have := HWR.out.size; omega
        have hwB : w5.heap.size ≤ wr.heap.size := HBR.out.size
        cases hg : goneB f k f.lots.length
        · have HG := Lib.hid hg
          have HS : Hid (endsTo f (k + 1) = endsTo f k ++ [(k : Int)]) := Lib.hid (by simp [endsTo, hg])
          have HLn := Lib.hid (endsTo_len f k)
          clear hg
          go_wp2_with (first
            | (go_at_call 44; refine (gone_any B _ _ _ f k f.lots.length (HF.out.below HWR.out hB) hBw (Nat.le_refl _)).mono ?_; rintro e w7 ⟨rfl, hb7⟩; have HB7 := Lib.hid hb7; clear hb7; rw [HG.out])
            | (at_builtin; refine append_int (n := (k : Int)) rfl _ _ rfl rfl ((HO.out.below HB7.out).alloc _) rfl ?c1 ?c2 ?c3 ?c4 ?c5))
          case c1 => exact World.cell?_alloc_at _ _ _ _ rfl
          case c2 => unfold I64; omega
          case c3 => have := HLn.out; omega
          case c4 => have := HB7.out.size; simp; omega
          case c5 =>
            intro v' w8 ho8 hg8
            have HO8 := Lib.hid ho8
            have HW8 : Hid (Below w5.heap.size w5 w8) := Lib.hid (((HBR.out.trans (HB7.out.mono hwB)).alloc (by have := HB7.out.size; omega) _).grown hg8 (by have := HB7.out.size; simp; omega) (fun q hq => (HO.out.1.lt q hq).1))
            clear ho8 hg8
            go_wp2
            go_roundw
            case rel => exact ⟨k + 1, by omega, by go_num, by rw [HS.out]; exact HO8.out, HW8.out⟩
            case measure => simp [intOf]; omega
        · have HG := Lib.hid hg
          have HS : Hid (endsTo f (k + 1) = endsTo f k) := Lib.hid (by simp [endsTo, hg])
          clear hg
          go_wp2_with (go_at_call 44; refine (gone_any B _ _ _ f k f.lots.length (HF.out.below HWR.out hB) hBw (Nat.le_refl _)).mono ?_; rintro e w7 ⟨rfl, hb7⟩; have HB7 := Lib.hid hb7; clear hb7; rw [HG.out])
          go_roundw
          case rel => exact ⟨k + 1, by omega, by go_num, by rw [HS.out]; exact HO.out.below HB7.out, HBR.out.trans (HB7.out.mono HBR.out.size)⟩
          case measure => simp [intOf]; omega
      · obtain rfl : k = n := by omega
        go_wp2
        go_ret2
        exact ⟨_, by rw [H1.out]; rfl, by rw [HT.out, HL.out]; exact HO.out.mono HW5.out.size, HWR.out⟩
  · have HT : Hid (endsR f = []) := Lib.hid (by unfold endsR; rw [if_neg h1])
    have h1' : (checkE f != 0) = true := by simpa using h1
    clear h1
    go_enter Try.func22, Try.ntmps22
    go_wp2_with (go_at_call 32; refine (HC.out _).mono ?_; rintro e w5 ⟨rfl, hb5⟩; have HB5 := Lib.hid hb5; clear hb5)
    go_ret2
    exact ⟨_, rfl, by rw [HT.out]; exact OwnInts.nil _ _, (box_below (Nat.le_refl _) _).trans (HB5.out.mono (by simp))⟩

/-- frankingref25.Few -/
theorem few25_any (B : Nat) (w : World) (vs vl : Value) (f : Flow) (hf : IsFlow B w vs vl f) (hB : B ≤ w.heap.size) :
    Calls Try.prog 56 #[.agg #[vs, vl]] w fun e w' => e = .returned (.bool (few25 f)) ∧ Below w.heap.size w w' := by
  obtain ⟨rfl, ⟨hs1, hs2⟩, hl⟩ := hf
  obtain ⟨b, off, cap, ⟨a, rfl, hcap, hmax, ha⟩, hlen, hc⟩ := hl
  go_enter Try.func56, Try.ntmps56
  go_wp2
  go_loop [3] (fun i => ∃ k : Nat, k ≤ f.lots.length ∧ k ≤ 20 ∧ i = .int .i64 k ∧ fewTo f k = true) (fun i => f.lots.length - (intOf i).toNat)
  case atStart => exact ⟨0, by omega, by omega, rfl, rfl⟩
  case round =>
    obtain ⟨k, hk, hk2, rfl, hno⟩ := hrel
    have HN := Lib.hid hno
    clear hno
    by_cases hlt : k < f.lots.length
    · have hlt' : decide ((k : Int) < f.lots.length) = true := decide_eq_true (by omega)
      by_cases h20 : k < 20
      · have h20' : decide ((k : Int) < 20) = true := decide_eq_true (by omega)
        obtain rfl : a = some ⟨b, off, none⟩ := by rcases ha with ha | ha; exact ha; omega
        obtain ⟨vi, vk, vp, ⟨hb, c1⟩, _, ⟨_, c3⟩, ⟨b1, off1, cap1, ⟨a1, rfl, _⟩, hl1, _⟩, _, ⟨b2, off2, cap2, ⟨a2, rfl, _⟩, hl2, _⟩⟩ := hc k (by omega)
        have hbB : b < w.heap.size := by omega
        have HS : Hid (fewTo f (k + 1) = (fewTo f k && (decide ((lotAt f.lots k).ins.length ≤ 70) && decide ((lotAt f.lots k).perm.length ≤ 70)))) := Lib.hid rfl
        obtain ⟨n1, hn1⟩ : ∃ n, (lotAt f.lots k).ins.length = n := ⟨_, rfl⟩
        obtain ⟨n2, hn2⟩ : ∃ n, (lotAt f.lots k).perm.length = n := ⟨_, rfl⟩
        rw [hn1] at c1 HS
        rw [hn2] at c3 HS
        clear ha hc hn1 hn2 hl1 hl2
        have HM : ∀ m, k + 1 ≤ m → fewTo f (k + 1) = false → few25 f = false ∨ min f.lots.length 20 < m := by
          intro m hm hh
          by_cases hmin : min f.lots.length 20 < m
          · exact Or.inr hmin
          · left; unfold few25; rw [fewTo_false hh (by omega)]; rfl
        have HF0 : Hid (fewTo f (k + 1) = false → few25 f = false) := Lib.hid fun hh => by
          unfold few25; rw [fewTo_false hh (by omega)]; rfl
        clear HM
        by_cases h1 : 70 < n1
        · have h1' : decide (70 < (n1 : Int)) = true := decide_eq_true (by omega)
          have HT : Hid (few25 f = false) := Lib.hid (HF0.out (by rw [HS.out, decide_eq_false (by omega : ¬ n1 ≤ 70)]; simp))
          go_wp2
          go_ret
          exact ⟨by rw [HT.out]; rfl, box_below (Nat.le_refl _) _⟩
        · have h1' : decide (70 < (n1 : Int)) = false := decide_eq_false (by omega)
          by_cases h2 : 70 < n2
          · have h2' : decide (70 < (n2 : Int)) = true := decide_eq_true (by omega)
            have HT : Hid (few25 f = false) := Lib.hid (HF0.out (by rw [HS.out, decide_eq_false (by omega : ¬ n2 ≤ 70)]; simp))
            go_wp2
            go_ret
            exact ⟨by rw [HT.out]; rfl, box_below (Nat.le_refl _) _⟩
          · have h2' : decide (70 < (n2 : Int)) = false := decide_eq_false (by omega)
            have HT : Hid (fewTo f (k + 1) = true) := Lib.hid (by rw [HS.out, HN.out, decide_eq_true (by omega : n1 ≤ 70), decide_eq_true (by omega : n2 ≤ 70)]; rfl)
            go_wp2
            go_round
            case rel => exact ⟨k + 1, by omega, by omega, by go_num, HT.out⟩
            case measure => simp [intOf]; omega
      · have h20' : decide ((k : Int) < 20) = false := decide_eq_false (by omega)
        clear hc
        by_cases h3 : f.lots.length ≤ 20
        · omega
        · have h3' : decide ((f.lots.length : Int) ≤ 20) = false := decide_eq_false (by omega)
          have HT : Hid (few25 f = false) := Lib.hid (by unfold few25; rw [decide_eq_false h3]; simp)
          go_wp2
          go_ret
          exact ⟨by rw [HT.out]; rfl, box_below (Nat.le_refl _) _⟩
    · have hlt' : decide ((k : Int) < f.lots.length) = false := decide_eq_false (by omega)
      obtain rfl : k = f.lots.length := by omega
      have h3' : decide ((f.lots.length : Int) ≤ 20) = true := decide_eq_true (by omega)
      have HT : Hid (few25 f = true) := Lib.hid (by unfold few25; rw [decide_eq_true hk2, Nat.min_eq_left hk2, HN.out]; rfl)
      clear hc
      go_wp2
      go_ret
      exact ⟨by rw [HT.out]; rfl, box_below (Nat.le_refl _) _⟩

end Go.Proofs.Ytndcbnnbgedgcaa
