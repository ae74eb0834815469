/-
  The walks of frankingref26.Ends, Matrix.
-/
import Derived.Test.YtndcbnnbgedgcaaR26c
set_option linter.unusedVariables false
set_option linter.unusedSimpArgs false
namespace Go.Proofs.Ytndcbnnbgedgcaa
open Go.RowKit

theorem endsL_len {f : Flow} (h : checkE f = 0) : (endsL f).length ≤ 50000 := by
  have := endsTo_len f (beforeI f f.lots.length).toNat
  have := checkE_ok h
  unfold endsL
  omega

set_option maxHeartbeats 1000000 in
/-- frankingref26.Ends -/
theorem ends26_any (B : Nat) (w : World) (vs vl : Value) (f : Flow) (s : Int) (hf : IsFlow B w vs vl f) (hB : B ≤ w.heap.size) (hs : I64 s) :
    Calls Try.prog 34 #[.agg #[vs, vl], .int .i64 s] w fun e w' => ∃ v, e = .returned (.tuple #[v, .int .i64 (reachE f s)]) ∧ OwnInts w.heap.size w' v (reachR f s) ∧ Below w.heap.size w w' := by
  have HF := Lib.hid hf
  obtain ⟨rfl, ⟨hs1, hs2⟩, hl⟩ := hf
  obtain ⟨b, off, cap, ⟨a, rfl, hcap, hmax, ha⟩, hlen, hc⟩ := hl
  have HA := Lib.hid ha
  clear hc ha
  have HC := Lib.hid (fun o => ends25_any B (w.alloc o) _ _ f (HF.out.below (box_below hB o) (Nat.le_refl _)) (by simp; omega))
  by_cases h1 : checkE f = 0
  · have HK := Lib.hid (checkE_ok h1)
    have HEL := Lib.hid (endsL_len h1)
    have HER : Hid (endsR f = endsL f) := Lib.hid (by unfold endsR; rw [if_pos h1])
    have h1' : (checkE f != 0) = false := by simpa using h1
    have H1 := Lib.hid h1
    clear h1
    by_cases h2 : s < 0
    · have h2' : decide (s < 0) = true := decide_eq_true h2
      have HE : Hid (reachE f s = 1) := Lib.hid (by unfold reachE; rw [if_neg (by simp [H1.out]), if_pos (Or.inl h2)])
      have HR : Hid (reachR f s = []) := Lib.hid (by unfold reachR; rw [HE.out]; rfl)
      go_enter Try.func34, Try.ntmps34
      go_wp2_with (go_at_call 22; refine (HC.out _).mono ?_; rintro e w5 ⟨v5, rfl, ho5, hb5⟩; have HB5 := Lib.hid hb5; clear ho5 hb5)
      go_ret2
      exact ⟨_, by rw [HE.out]; rfl, by rw [HR.out]; exact OwnInts.nil _ _, (box_below (Nat.le_refl _) _).trans (HB5.out.mono (by simp))⟩
    · have h2' : decide (s < 0) = false := decide_eq_false h2
      by_cases h3 : f.senders ≤ s
      · have h3' : decide (f.senders ≤ s) = true := decide_eq_true h3
        have HE : Hid (reachE f s = 1) := Lib.hid (by unfold reachE; rw [if_neg (by simp [H1.out]), if_pos (Or.inr h3)])
        have HR : Hid (reachR f s = []) := Lib.hid (by unfold reachR; rw [HE.out]; rfl)
        go_enter Try.func34, Try.ntmps34
        go_wp2_with (go_at_call 22; refine (HC.out _).mono ?_; rintro e w5 ⟨v5, rfl, ho5, hb5⟩; have HB5 := Lib.hid hb5; have HX := Lib.hid ((Box.new w _ _).ext hb5); obtain ⟨z5, r5⟩ := HX.out; clear ho5 hb5)
        go_ret2
        exact ⟨_, by rw [HE.out]; rfl, by rw [HR.out]; exact OwnInts.nil _ _, (box_below (Nat.le_refl _) _).trans (HB5.out.mono (by simp))⟩
      · have h3' : decide (f.senders ≤ s) = false := decide_eq_false h3
        have HE : Hid (reachE f s = 0) := Lib.hid (by unfold reachE; rw [if_neg (by simp [H1.out]), if_neg (by omega)])
        have HR : Hid (reachR f s = reachL f s) := Lib.hid (by unfold reachR; rw [if_pos HE.out])
        go_enter Try.func34, Try.ntmps34
        go_wp2_with fail
        refine (HC.out _).mono ?_
        rintro e w5 ⟨v5, rfl, ho5, hb5⟩
        rw [HER.out] at ho5
        have HO5 := Lib.hid ho5
        have HX5 := Lib.hid ((Box.new w _ _).ext hb5)
        have HW5 : Hid (Below w.heap.size w w5) := Lib.hid ((box_below (Nat.le_refl _) _).trans (hb5.mono (by simp)))
        obtain ⟨z5, r5⟩ := HX5.out
        clear ho5 hb5
        go_wp2_with fail
        refine (spots26_any B w5 _ _ f s (HF.out.below HW5.out hB) (by have := HW5.out.size; omega) H1.out hs).mono ?_
        rintro e w6 ⟨v6, rfl, ho6, hb6⟩
        have HO6 := Lib.hid (ho6.isInts)
        have HE6 := Lib.hid ((HO5.out.below hb6).isInts)
        have HW6 : Hid (Below w.heap.size w w6) := Lib.hid (HW5.out.trans (hb6.mono HW5.out.size))
        have HZ6 : Hid (w.heap.size < w6.heap.size) := Lib.hid (Nat.lt_of_lt_of_le z5 hb6.size)
        clear ho6 hb6 z5 r5
        obtain ⟨be, oe, ce, ⟨ae, rfl, hce, hme, hae⟩, hle, hze, hcc⟩ := HE6.out
        have HCC := Lib.hid hcc
        have HZE := Lib.hid hze
        have HL : Hid (reachL f s = amongTo (endsL f) (spotsTo f s f.lots.length) (endsL f).length) := Lib.hid rfl
        obtain ⟨ends, hends⟩ : ∃ l, endsL f = l := ⟨_, rfl⟩
        obtain ⟨spots, hspots⟩ : ∃ l, spotsTo f s f.lots.length = l := ⟨_, rfl⟩
        rw [hends] at HCC HZE HL HEL hle hce hae ⊢
        rw [hspots] at HL HO6
        clear hcc hze hends hspots HE6
        go_wp2
        go_loopw [9, 10] (fun v i wr => ∃ k : Nat, k ≤ ends.length ∧ i = .int .i64 k ∧ OwnInts w6.heap.size wr v (amongTo ends spots k) ∧ Below w6.heap.size w6 wr) (fun _ i _ => ends.length - (intOf i).toNat)
        case atStart => exact ⟨0, by omega, rfl, OwnInts.made' rfl (Nat.le_refl _), box_below (Nat.le_refl _) _⟩
        case round =>
          obtain ⟨k, hk, rfl, hno, hbr⟩ := hrel
          have HO := Lib.hid hno
          have HBR := Lib.hid hbr
          have hwr : w6.heap.size ≤ wr.heap.size := hbr.size
          clear hno hbr
          by_cases hlt : k < ends.length
          · obtain rfl : ae = some ⟨be, oe, none⟩ := by rcases hae with ha | ha; exact ha; omega
            have hcell := (HBR.out.cell (p := ⟨be, oe + k, none⟩) (HCC.out k hlt).1).trans (HCC.out k hlt).2
            have HLn := Lib.hid (amongTo_len ends spots k)
            cases hh : hasB spots (nth ends k)
            · have HH := Lib.hid hh
              have HS : Hid (amongTo ends spots (k + 1) = amongTo ends spots k) := Lib.hid (by simp [amongTo, hh])
              clear hh
              go_wp2_with (go_at_call 23; refine (has_any _ _ _ _ _ (HO6.out.below HBR.out (Nat.le_refl _))).mono ?_; rintro e w' ⟨rfl, rfl⟩; rw [HH.out])
              go_roundw
              case rel => exact ⟨k + 1, by omega, by go_num, by rw [HS.out]; exact HO.out, HBR.out⟩
              case measure => simp [intOf]; omega
            · have HH := Lib.hid hh
              have HS : Hid (amongTo ends spots (k + 1) = amongTo ends spots k ++ [nth ends k]) := Lib.hid (by simp [amongTo, hh])
              clear hh
              go_wp2_with (first
                | (go_at_call 23; refine (has_any _ _ _ _ _ (HO6.out.below HBR.out (Nat.le_refl _))).mono ?_; rintro e w' ⟨rfl, rfl⟩; rw [HH.out])
                | (at_builtin; refine append_int (n := nth ends k) rfl _ _ rfl rfl (HO.out.alloc _) rfl ?c1 ?c2 ?c3 ?c4 ?c5))
              try (case c1 => exact World.cell?_alloc_at _ _ _ _ rfl)
              case c2 => exact HZE.out _ (by rw [nth_eq_getElem hlt]; exact List.getElem_mem hlt)
              case c3 => have := HLn.out; have := HEL.out; omega
              try (case c4 => simp; omega)
              case c5 =>
                intro v' w8 ho8 hg8
                have HO8 := Lib.hid ho8
                have HW8 : Hid (Below w6.heap.size w6 w8) := Lib.hid ((HBR.out.alloc (by omega) _).grown hg8 (by simp; omega) (fun q hq => (HO.out.1.lt q hq).1))
                clear ho8 hg8
                go_wp2
                go_roundw
                case rel => exact ⟨k + 1, by omega, by go_num, by rw [HS.out]; exact HO8.out, HW8.out⟩
                case measure => simp [intOf]; omega
          · obtain rfl : k = ends.length := by omega
            go_wp2
            go_ret2
            exact ⟨_, by rw [HE.out]; rfl, by rw [HR.out, HL.out]; exact HO.out.mono (by have := HZ6.out; omega), HW6.out.trans (HBR.out.mono HW6.out.size)⟩
  · have HE : Hid (reachE f s = checkE f) := Lib.hid (by unfold reachE; rw [if_pos h1])
    have HR : Hid (reachR f s = []) := Lib.hid (by unfold reachR; rw [HE.out, if_neg h1])
    have h1' : (checkE f != 0) = true := by simpa using h1
    clear h1
    go_enter Try.func34, Try.ntmps34
    go_wp2_with (go_at_call 22; refine (HC.out _).mono ?_; rintro e w5 ⟨v5, rfl, ho5, hb5⟩; have HB5 := Lib.hid hb5; clear ho5 hb5)
    go_ret2
    exact ⟨_, by rw [HE.out]; rfl, by rw [HR.out]; exact OwnInts.nil _ _, (box_below (Nat.le_refl _) _).trans (HB5.out.mono (by simp))⟩

def matR (f : Flow) : List (List Int) := if checkE f = 0 then matTo f f.senders.toNat else []
theorem matTo_len (f : Flow) : ∀ k, (matTo f k).length = k
  | 0 => rfl
  | k + 1 => by simp [matTo, matTo_len f k]

set_option maxHeartbeats 1000000 in
/-- frankingref26.Matrix -/
theorem matrix26_any (B : Nat) (w : World) (vs vl : Value) (f : Flow) (hf : IsFlow B w vs vl f) (hB : B ≤ w.heap.size) :
    Calls Try.prog 59 #[.agg #[vs, vl]] w fun e w' => ∃ v, e = .returned (.tuple #[v, .int .i64 (checkE f)]) ∧ OwnMat w.heap.size w' v (matR f) ∧ Below w.heap.size w w' := by
  have HF := Lib.hid hf
  obtain ⟨rfl, ⟨hs1, hs2⟩, hl⟩ := hf
  obtain ⟨b, off, cap, ⟨a, rfl, hcap, hmax, ha⟩, hlen, hc⟩ := hl
  clear hc ha
  have HC := Lib.hid (fun o => check25_any B (w.alloc o) _ _ f (HF.out.below (box_below hB o) (Nat.le_refl _)) (by simp; omega))
  by_cases h1 : checkE f = 0
  · have HK := Lib.hid (checkE_ok h1)
    have h1' : (checkE f != 0) = false := by simpa using h1
    have H1 := Lib.hid h1
    have HR : Hid (matR f = matTo f f.senders.toNat) := Lib.hid (by unfold matR; rw [if_pos h1])
    have HN : Hid (f.senders = (f.senders.toNat : Int)) := Lib.hid (by have := HK.out; omega)
    obtain ⟨n, hn⟩ : ∃ n, f.senders.toNat = n := ⟨_, rfl⟩
    rw [hn] at HN HR
    have hn64 : n ≤ 64 := by have := HK.out; have := HN.out; omega
    clear h1 hn
    go_enter Try.func59, Try.ntmps59
    go_wp2_with fail
    refine (HC.out _).mono ?_
    rintro e w5 ⟨rfl, hb5⟩
    have HX5 := Lib.hid ((Box.new w _ _).ext hb5)
    have HW5 : Hid (Below w.heap.size w w5) := Lib.hid ((box_below (Nat.le_refl _) _).trans (hb5.mono (by simp)))
    clear hb5
    rw [HN.out] at HX5 HF ⊢
    go_wp2
    go_loopw [5, 6] (fun v i wr => ∃ k : Nat, k ≤ n ∧ i = .int .i64 k ∧ OwnMat w5.heap.size wr v (matTo f k) ∧ Below w5.heap.size w5 wr) (fun _ i _ => n - (intOf i).toNat)
    case atStart => exact ⟨0, by omega, rfl, OwnMat.made rfl (Nat.le_refl _), box_below (Nat.le_refl _) _⟩
    case round =>
      obtain ⟨k, hk, rfl, hno, hbr⟩ := hrel
      have HO := Lib.hid hno
      have HBR := Lib.hid hbr
      have hwr : w5.heap.size ≤ wr.heap.size := hbr.size
      obtain ⟨zr, rr⟩ := HX5.out.ext hbr
      have HWR : Hid (Below w.heap.size w wr) := Lib.hid (HW5.out.trans (HBR.out.mono HW5.out.size))
      clear hno hbr
      by_cases hlt : k < n
      · have HE : Hid (reachE f k = 0) := Lib.hid (by unfold reachE; rw [if_neg (by simp [H1.out]), if_neg (by have := HN.out; omega)])
        have HL : Hid (reachR f k = reachL f k) := Lib.hid (by unfold reachR; rw [if_pos HE.out])
        have HS : Hid (matTo f (k + 1) = matTo f k ++ [reachL f k]) := Lib.hid rfl
        have HLn := Lib.hid (matTo_len f k)
        go_wp2_with (first
          | (go_at_call 34; refine (ends26_any B wr _ _ f k (HF.out.below HWR.out hB) (by have := HWR.out.size; omega) (by unfold I64; omega)).mono ?_; rintro e w7 ⟨v7, rfl, ho7, hb7⟩; rw [HL.out] at ho7; obtain ⟨a7, c7, rfl, _⟩ := ho7.form; have HO7 := Lib.hid ho7; have HB7 := Lib.hid hb7; clear ho7 hb7)
          | (at_builtin; refine append_row (r := .slice a7 (reachL f k).length c7) (xs := reachL f k) rfl _ _ rfl rfl ((HO.out.below HB7.out).alloc _) rfl ?c1 ((HO7.out.mono hwr).alloc _) ?c3 ?c4 ?c5))
        try (case c1 => exact World.cell?_alloc_at _ _ _ _ rfl)
        case c3 => have := HLn.out; omega
        try (case c4 => have := HB7.out.size; simp; omega)
        case c5 =>
          intro v' w8 ho8 hg8
          have HO8 := Lib.hid ho8
          have HW8 : Hid (Below w5.heap.size w5 w8) := Lib.hid (((HBR.out.trans (HB7.out.mono hwr)).alloc (by have := HB7.out.size; omega) _).grown hg8 (by have := HB7.out.size; simp; omega) (fun q hq => by obtain ⟨vals, hv, _⟩ := HO.out; exact (hv.lt q hq).1))
          clear ho8 hg8
          go_wp2
          go_roundw
          case rel => exact ⟨k + 1, by omega, by go_num, by rw [HS.out]; exact HO8.out, HW8.out⟩
          case measure => simp [intOf]; omega
      · obtain rfl : k = n := by omega
        go_wp2
        go_ret2
        exact ⟨_, by rw [H1.out]; rfl, by rw [HR.out]; exact HO.out.mono HW5.out.size, HWR.out⟩
  · have HR : Hid (matR f = []) := Lib.hid (by unfold matR; rw [if_neg h1])
    have h1' : (checkE f != 0) = true := by simpa using h1
    clear h1
    go_enter Try.func59, Try.ntmps59
    go_wp2_with (go_at_call 32; refine (HC.out _).mono ?_; rintro e w5 ⟨rfl, hb5⟩; have HB5 := Lib.hid hb5; clear hb5)
    go_ret2
    exact ⟨_, rfl, by rw [HR.out]; exact OwnMat.nil _ _, (box_below (Nat.le_refl _) _).trans (HB5.out.mono (by simp))⟩

end Go.Proofs.Ytndcbnnbgedgcaa
