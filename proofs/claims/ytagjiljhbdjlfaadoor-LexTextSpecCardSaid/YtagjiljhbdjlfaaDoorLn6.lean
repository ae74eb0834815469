/-
  Layer 3: the walk of LexTextSpec.
-/
import Derived.Test.YtagjiljhbdjlfaaDoorLn3
import Derived.Test.YtagjiljhbdjlfaaDoorLx22
set_option linter.unusedVariables false
set_option linter.unusedSimpArgs false
namespace Go.Proofs.YtagjiljhbdjlfaaDoor
open Go.RowKit

theorem sameT_self (ts : List Tok) : sameT ts ts = true := sameT_iff.2 rfl

set_option maxHeartbeats 4000000 in
set_option maxRecDepth 100000 in
theorem lexTextSpec_any (B : Nat) (xs ys : List Tok) (va vb : Value) (s : ByteArray) (w : World) (hL : LaidW w) (hB : B ≤ w.heap.size) (hva : IsToks B w va xs) (hvb : IsToks B w vb ys) (hs : s.size ≤ 140737488351232) :
    Calls Tryd.prog 4 #[va, vb, .string s] w fun e w' => e = .returned (.bool true) ∧ Below w.heap.size w w' := by
  have HL0 := Lib.hid hL
  have h4 := hL.size
  have HA := Lib.hid hva
  have HB := Lib.hid hvb
  obtain ⟨a, c, rfl, hc1, hc2, hc3⟩ := hva.form
  obtain ⟨a', c', rfl, hd1, hd2, hd3⟩ := hvb.form
  clear hL hva hvb
  go_enter Tryd.func4, Tryd.ntmps4
  go_wp2_with fail
  refine (sane_any w HL0.out).mono ?_
  rintro e w1 ⟨rfl, hb⟩
  have HB1 := Lib.hid hb
  have HA1 := Lib.hid (HA.out.below hb hB)
  have HC1 := Lib.hid (HB.out.below hb hB)
  have HL1 := Lib.hid (HL0.out.below hb h4)
  clear hb
  go_wp2_with fail
  refine (few_any B w1 _ xs HA1.out).mono ?_
  rintro e w2 ⟨rfl, rfl⟩
  cases hf : fewB xs with
  | false =>
    clear hf
    go_wp2
    go_ret
    exact ⟨rfl, HB1.out⟩
  | true =>
    have HFB := Lib.hid (few_bd hf)
    clear hf
    go_wp2_with fail
    refine (few_any B w2 _ ys HC1.out).mono ?_
    rintro e w3 ⟨rfl, rfl⟩
    cases hf : fewB ys with
    | false =>
      clear hf
      go_wp2
      go_ret
      exact ⟨rfl, HB1.out⟩
    | true =>
      clear hf
      by_cases hbig : 1000 < s.size
      · go_wp2
        go_ret
        exact ⟨rfl, HB1.out⟩
      · have hbd := HB1.out.size
        have hsm : (s.size : Int) ≤ 1000 := by omega
        clear hbig
        go_wp2_with fail
        refine (text_any B w3 _ xs HL1.out (by omega) HA1.out HFB.out.1 HFB.out.2).mono ?_
        rintro e w4 ⟨rfl, hb⟩
        have HB4 : Hid (Below w.heap.size w w4) := Lib.hid (HB1.out.trans (hb.mono HB1.out.size))
        have HA4 := Lib.hid (HA.out.below HB4.out hB)
        have hz4 := HB4.out.size
        clear hb
        obtain ⟨sx, hsx⟩ : ∃ sx : ByteArray, strV (textL xs) = .string sx := ⟨_, rfl⟩
        have HSX := Lib.hid hsx
        rw [hsx]
        clear hsx
        go_wp2_with fail
        refine (rtext_any B w4 _ xs (by omega) HA4.out HFB.out.1 HFB.out.2).mono ?_
        rintro e w5 ⟨rfl, hb⟩
        have HB5 : Hid (Below w.heap.size w w5) := Lib.hid (HB4.out.trans (hb.mono HB4.out.size))
        have HA5 := Lib.hid (HA.out.below HB5.out hB)
        have HC5 := Lib.hid (HB.out.below HB5.out hB)
        have hz5 := HB5.out.size
        clear hb
        rw [HSX.out]
        go_wp2_with fail
        refine (same_any B w5 _ _ xs ys (by omega) HA5.out HC5.out).mono ?_
        rintro e w6 ⟨rfl, hb⟩
        have HB6 : Hid (Below w.heap.size w w6) := Lib.hid (HB5.out.trans (hb.mono HB5.out.size))
        have HA6 := Lib.hid (HA.out.below HB6.out hB)
        have HC6 := Lib.hid (HB.out.below HB6.out hB)
        have hz6 := HB6.out.size
        clear hb
        go_wp2_with fail
        refine (rsame_any B w6 _ _ xs ys HA6.out HC6.out).mono ?_
        rintro e w7 ⟨rfl, hd⟩
        have HB7 : Hid (Below w.heap.size w w7) := Lib.hid (HB6.out.trans (hd.below _))
        have HA7 := Lib.hid (HA.out.below HB7.out hB)
        have hz7 := HB7.out.size
        have HSS := Lib.hid (sameT_self xs)
        clear hd
        go_wp2_with fail
        refine (same_any B w7 _ _ xs xs (by omega) HA7.out HA7.out).mono ?_
        rintro e w8 ⟨rfl, hb⟩
        have HB8 : Hid (Below w.heap.size w w8) := Lib.hid (HB7.out.trans (hb.mono HB7.out.size))
        rw [HSS.out]
        clear hb
        go_wp2_with fail
        refine (name_any s w8 (by omega)).mono ?_
        rintro e w9 ⟨rfl, rfl⟩
        go_wp2_with fail
        refine (rname_any s w9 (by omega)).mono ?_
        rintro e w10 ⟨rfl, rfl⟩
        go_wp2
        go_ret
        exact ⟨by simp, HB8.out⟩
end Go.Proofs.YtagjiljhbdjlfaaDoor
