/-
  The walk of reach.Matrix.
-/
import Derived.Test.YtndcbnnbgedgcaaF26h
set_option linter.unusedVariables false
set_option linter.unusedSimpArgs false
namespace Go.Proofs.Ytndcbnnbgedgcaa
open Go.RowKit

set_option maxHeartbeats 1000000 in
/-- reach.Matrix -/
theorem rmatrix_any (B : Nat) (w : World) (vs vl : Value) (f : Flow) (hf : IsFlow B w vs vl f) (hB : B ≤ w.heap.size) :
    Calls Try.prog 57 #[.agg #[vs, vl]] w fun e w' => ∃ v, e = .returned (.tuple #[v, .int .i64 (checkE f)]) ∧ OwnMat w.heap.size w' v (matR f) ∧ Below w.heap.size w w' := by
  have HF := Lib.hid hf
  obtain ⟨rfl, ⟨hs1, hs2⟩, hl⟩ := hf
  obtain ⟨b, off, cap, ⟨a, rfl, hcap, hmax, ha⟩, hlen, hc⟩ := hl
  clear hc ha
  have HC := Lib.hid (fun o => fEnds_any B (w.alloc o) _ _ f (HF.out.below (box_below hB o) (Nat.le_refl _)) (by simp; omega))
  by_cases h1 : checkE f = 0
  · have HK := Lib.hid (checkE_ok h1)
    have h1' : (checkE f != 0) = false := by simpa using h1
    have H1 := Lib.hid h1
    have HER : Hid (endsR f = endsL f) := Lib.hid (by unfold endsR; rw [if_pos h1])
    have HR : Hid (matR f = matTo f f.senders.toNat) := Lib.hid (by unfold matR; rw [if_pos h1])
    have HN : Hid (f.senders = (f.senders.toNat : Int)) := Lib.hid (by have := HK.out; omega)
    have HLEN := Lib.hid (fun s => reachL_len h1 s)
    obtain ⟨n, hn⟩ : ∃ n, f.senders.toNat = n := ⟨_, rfl⟩
    rw [hn] at HN HR
    have hn64 : n ≤ 64 := by have := HK.out; have := HN.out; omega
    clear h1 hn
    go_enter Try.func57, Try.ntmps57
    go_wp2_with fail
    refine (HC.out _).mono ?_
    rintro e w5 ⟨v5, rfl, ho5, hb5⟩
    rw [HER.out] at ho5
    have HI5 := Lib.hid ho5.isInts
    obtain ⟨a5, m5, n5, rfl⟩ := ho5.form'
    have HX5 := Lib.hid ((Box.new w _ _).ext hb5)
    have HW5 : Hid (Below w.heap.size w w5) := Lib.hid ((box_below (Nat.le_refl _) _).trans (hb5.mono (by simp)))
    clear hb5 ho5
    rw [HN.out] at HX5 HF ⊢
    obtain ⟨z5, r5⟩ := HX5.out
    go_wp2
    clear z5 r5
    go_loopw [2, 16] (fun v i wr => ∃ k : Nat, k ≤ n ∧ i = .int .i64 k ∧ OwnMat w5.heap.size wr v (matTo f k) ∧ Below w5.heap.size w5 wr) (fun _ i _ => n - (intOf i).toNat)
    case atStart => exact ⟨0, by omega, rfl, OwnMat.nil _ _, Below.refl _ _⟩
    case round =>
      obtain ⟨k, hk, rfl, hno, hbr⟩ := hrel
      have HO := Lib.hid hno
      have HBR := Lib.hid hbr
      have hwr : w5.heap.size ≤ wr.heap.size := hbr.size
      obtain ⟨zr, rr⟩ := HX5.out.ext hbr
      have HWR : Hid (Below w.heap.size w wr) := Lib.hid (HW5.out.trans (HBR.out.mono HW5.out.size))
      clear hno hbr
      by_cases hlt : k < n
      · have HS : Hid (matTo f (k + 1) = matTo f k ++ [reachL f k]) := Lib.hid rfl
        have HLn := Lib.hid (matTo_len f k)
        go_wp2_with fail
        have HFR := Lib.hid (HF.out.below HWR.out hB)
        have HIR := Lib.hid ((HI5.out.below HBR.out (Nat.le_refl _)).mono hwr)
        refine (reached_any wr _ _ _ f B wr.heap.size (endsL f) k HFR.out HIR.out).mono ?_
        rintro e w6 ⟨rfl, hw6⟩
        have HK2 := Lib.hid (reach_collect B wr _ _ _ f k HFR.out (by have := HWR.out.size; omega) HIR.out H1.out (by omega) (by have := HN.out; omega) w6 hw6)
        clear hw6 zr rr
        go_wp2_with (first
          | (go_at_call 41; refine HK2.out.2.mono ?_; rintro e w7 ⟨v7, rfl, ho7, hb7⟩; obtain ⟨a7, c7, rfl, _⟩ := ho7.form; have HO7 := Lib.hid ho7; have HB7 := Lib.hid hb7; clear ho7 hb7)
          | (at_builtin; refine append_row (r := .slice a7 (reachL f k).length c7) (xs := reachL f k) rfl _ _ rfl rfl ((HO.out.below HB7.out).alloc _) rfl ?c1 ((HO7.out.mono hwr).alloc _) ?c3 ?c4 ?c5))
        try (case c1 => exact World.cell?_alloc_at _ _ _ _ rfl)
        case c3 => have := HLn.out; omega
        try (case c4 => have := HB7.out.size; simp; omega)
        case c5 =>
          intro v' w8 ho8 hg8
          have HO8 := Lib.hid ho8
          have HW8 : Hid (Below w5.heap.size w5 w8) := Lib.hid (((HBR.out.trans (HB7.out.mono hwr)).alloc (by have := HB7.out.size; omega) _).grown hg8 (by have := HB7.out.size; simp; omega) (fun q hq => by obtain ⟨vals, hv, _⟩ := HO.out; exact (hv.lt q hq).1))
          clear ho8 hg8
          go_wp2
          go_roundw
          case rel => exact ⟨k + 1, by omega, by go_num, by rw [HS.out]; exact HO8.out, HW8.out⟩
          case measure => simp [intOf]; omega
      · obtain rfl : k = n := by omega
        go_wp2
        go_ret2
        exact ⟨_, by rw [H1.out]; rfl, by rw [HR.out]; exact HO.out.mono HW5.out.size, HWR.out⟩
  · have HR : Hid (matR f = []) := Lib.hid (by unfold matR; rw [if_neg h1])
    have h1' : (checkE f != 0) = true := by simpa using h1
    clear h1
    go_enter Try.func57, Try.ntmps57
    go_wp2_with (go_at_call 40; refine (HC.out _).mono ?_; rintro e w5 ⟨v5, rfl, ho5, hb5⟩; have HB5 := Lib.hid hb5; clear ho5 hb5)
    go_ret2
    exact ⟨_, rfl, by rw [HR.out]; exact OwnMat.nil _ _, (box_below (Nat.le_refl _) _).trans (HB5.out.mono (by simp))⟩

end Go.Proofs.Ytndcbnnbgedgcaa
