/-
  Layer 3: the walk of LexSpec.
-/
import Derived.Test.YtagjiljhbdjlfaaDoorLx16
import Derived.Test.YtagjiljhbdjlfaaDoorLx20
set_option linter.unusedVariables false
set_option linter.unusedSimpArgs false
namespace Go.Proofs.YtagjiljhbdjlfaaDoor
open Go.RowKit

theorem eqT_self (ts : List Tok) : eqT ts ts = true := by unfold eqT; simp

set_option maxHeartbeats 2000000 in
set_option maxRecDepth 100000 in
theorem lexSpec_any (s : ByteArray) (w : World) (hL : LaidW w) (hs : s.size ≤ 140737488351232) :
    Calls Tryd.prog 3 #[.string s] w fun e w' => e = .returned (.bool true) ∧ Below w.heap.size w w' := by
  have HL0 := Lib.hid hL
  have h4 := hL.size
  have HSELF := Lib.hid (eqT_self (lexT s.data.toList))
  clear hL
  go_enter Tryd.func3, Tryd.ntmps3
  go_wp2_with fail
  refine (sane_any w HL0.out).mono ?_
  rintro e w1 ⟨rfl, hb⟩
  have HB1 := Lib.hid hb
  have HL1 := Lib.hid (HL0.out.below hb h4)
  clear hb
  by_cases hbig : 70000 < s.size
  · have hbig2 : (70000 : Int) < (s.size : Int) := by omega
    go_wp2
    go_ret
    exact ⟨rfl, HB1.out⟩
  · have hsm : (s.size : Int) ≤ 70000 := by omega
    clear hbig
    go_wp2_with fail
    refine (lex_any s w1 HL1.out (by omega)).mono ?_
    rintro e w2 ⟨v, rfl, ho, hb⟩
    have HB2 : Hid (Below w.heap.size w w2) := Lib.hid (HB1.out.trans (hb.mono HB1.out.size))
    obtain ⟨a2, c2, rfl⟩ := ho.form
    have HT2 : Hid (Tk w2 _ (lexT s.data.toList)) := Lib.hid (Tk.of ho)
    clear hb ho
    go_wp2_with fail
    refine (rlex_any s w2 (by omega)).mono ?_
    rintro e w3 ⟨v, rfl, ho, hb⟩
    have HB3 : Hid (Below w.heap.size w w3) := Lib.hid (HB2.out.trans (hb.mono HB2.out.size))
    have HT3 := Lib.hid (HT2.out.ext hb)
    obtain ⟨a3, c3, rfl⟩ := ho.form
    have HU3 : Hid (Tk w3 _ (lexT s.data.toList)) := Lib.hid (Tk.of ho)
    clear hb ho
    go_wp2_with fail
    refine (equal_any w3.heap.size w3 _ _ _ _ HT3.out HU3.out).mono ?_
    rintro e w4 ⟨rfl, hd⟩
    have HB4 : Hid (Below w.heap.size w w4) := Lib.hid (HB3.out.trans (hd.below _))
    rw [HSELF.out]
    clear hd
    go_wp2
    go_ret
    exact ⟨by simp, HB4.out⟩
end Go.Proofs.YtagjiljhbdjlfaaDoor
