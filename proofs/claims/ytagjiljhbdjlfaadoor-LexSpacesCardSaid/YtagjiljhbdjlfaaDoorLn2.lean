/-
  Layer 3: the walks of LexWrong.
-/
import Derived.Test.YtagjiljhbdjlfaaDoorLx16
import Derived.Lib.SmallJoins
set_option linter.unusedVariables false
set_option linter.unusedSimpArgs false
namespace Go.Proofs.YtagjiljhbdjlfaaDoor
open Go.RowKit

theorem data_app (a b : ByteArray) : (a ++ b).data.toList = a.data.toList ++ b.data.toList := by
  rw [ByteArray.data_append, Array.toList_append]
theorem lex_none {l : List UInt8} (h : (lexA l 0).2 = none) (hl : l.length ≤ 65536) : lexE l = 0 ∧ lexP l = 0 ∧ lexT l = (lexA l 0).1 := by
  have h2 : ¬ l.length > 65536 := by omega
  unfold lexT lexP lexE
  rw [if_neg h2, if_neg h2, if_neg h2, h]
  exact ⟨rfl, rfl, rfl⟩
theorem lex_some {l : List UInt8} {i : Nat} (h : (lexA l 0).2 = some i) (hl : l.length ≤ 65536) : lexE l = 30 ∧ lexP l = i ∧ lexT l = [] := by
  have h2 : ¬ l.length > 65536 := by omega
  unfold lexT lexP lexE
  rw [if_neg h2, if_neg h2, if_neg h2, h]
  exact ⟨rfl, rfl, rfl⟩
theorem wrong_law {l m : List UInt8} {i : Nat} (h : (lexA l 0).2 = some i) (hl : l.length + m.length ≤ 60000) :
    i < l.length ∧ (lexE (l.take i) = 0 ∧ lexP (l.take i) = 0) ∧ (lexE (l ++ [32] ++ m) = 30 ∧ lexP (l ++ [32] ++ m) = i) ∧ (lexE (l.drop i) = 30 ∧ lexP (l.drop i) = 0) := by
  obtain ⟨g1, g2, g3, g4⟩ := lexA_err l 0 i h
  simp only [Nat.sub_zero, Nat.zero_add] at g2 g3 g4
  have h1 := lex_none g3 (by simp; omega)
  have h2 := lex_some (lexA_more m (d := 32) rfl l 0 i h) (by simp; omega)
  have h3 := lex_some (l := l.drop i) (i := 0) (by rw [lexA_bad (by intro e; have := congrArg List.length e; simp at this; omega) g4]) (by simp; omega)
  have e : l ++ [32] ++ m = l ++ 32 :: m := by simp
  rw [e]
  exact ⟨g2, ⟨h1.1, h1.2.1⟩, ⟨h2.1, h2.2.1⟩, ⟨h3.1, h3.2.1⟩⟩

set_option maxHeartbeats 2000000 in
set_option maxRecDepth 100000 in
theorem lexWrong_any (s t : ByteArray) (w : World) (hL : LaidW w) (hs : s.size ≤ 140737488351232) (ht : t.size ≤ 140737488351232) :
    Calls Tryd.prog 9 #[.string s, .string t] w fun e w' => e = .returned (.bool true) ∧ Below w.heap.size w w' := by
  have HL0 := Lib.hid hL
  have h4 := hL.size
  have hlen := size_data s
  have hlen2 := size_data t
  clear hL
  go_enter Tryd.func9, Tryd.ntmps9
  go_wp2_with fail
  refine (sane_any w HL0.out).mono ?_
  rintro e w1 ⟨rfl, hb⟩
  have HB1 := Lib.hid hb
  have HL1 := Lib.hid (HL0.out.below hb h4)
  clear hb
  by_cases hbig : 3000 < s.size + t.size
  · have hbig2 : (3000 : Int) < (s.size : Int) + (t.size : Int) := by omega
    clear hlen hlen2
    go_wp2
    go_ret
    exact ⟨rfl, HB1.out⟩
  · have hsm : (s.size : Int) + (t.size : Int) ≤ 3000 := by omega
    have hs2 : s.size ≤ 3000 := by omega
    have ht2 : t.size ≤ 3000 := by omega
    go_wp2_with fail
    refine (lex_any s w1 HL1.out (by omega)).mono ?_
    rintro e w2 ⟨v, rfl, ho, hb⟩
    have HB2 : Hid (Below w.heap.size w w2) := Lib.hid (HB1.out.trans (hb.mono HB1.out.size))
    have HL2 := Lib.hid (HL0.out.below HB2.out h4)
    obtain ⟨a2, c2, rfl⟩ := ho.form
    clear hb ho
    cases hx : (lexA s.data.toList 0).2 with
    | none =>
      obtain ⟨e1, e2, _⟩ := lex_none hx (by omega)
      rw [e1, e2]
      clear hx e1 e2 hlen hlen2
      go_wp2
      go_ret
      exact ⟨rfl, HB2.out⟩
    | some i =>
      obtain ⟨e1, e2, _⟩ := lex_some hx (by omega)
      obtain ⟨hi, f1, f2, f3⟩ := wrong_law (m := t.data.toList) hx (by omega)
      have F1 : Hid (lexE (s.extract 0 i).data.toList = 0 ∧ lexP (s.extract 0 i).data.toList = 0) := Lib.hid (by rw [extract_list, List.drop_zero, Nat.sub_zero]; exact f1)
      have F2 : Hid (lexE (s ++ (⟨#[32]⟩ : ByteArray) ++ t).data.toList = 30 ∧ lexP (s ++ (⟨#[32]⟩ : ByteArray) ++ t).data.toList = i) := Lib.hid (by rw [data_app, data_app]; exact f2)
      have F3 : Hid (lexE (s.extract i s.size).data.toList = 30 ∧ lexP (s.extract i s.size).data.toList = 0) := Lib.hid (by rw [extract_list, List.take_of_length_le (by simp only [List.length_drop, size_data]; omega)]; exact f3)
      have hi2 : i < s.size := by omega
      have b1 : (0 : Int) ≤ (i : Int) := by omega
      have b2 : (i : Int) < (s.size : Int) := by omega
      have b3 : (i : Int) ≤ (s.size : Int) := by omega
      rw [e1, e2]
      clear hx e1 e2 hi f1 f2 f3 hlen hlen2
      go_wp2_with fail
      refine (lex_any (s.extract 0 i) _ HL2.out (by simp; omega)).mono ?_
      rintro e w3 ⟨v, rfl, ho, hb⟩
      have HB3 : Hid (Below w.heap.size w w3) := Lib.hid (HB2.out.trans (hb.mono HB2.out.size))
      have HL3 := Lib.hid (HL0.out.below HB3.out h4)
      obtain ⟨a3, c3, rfl⟩ := ho.form
      rw [F1.out.1, F1.out.2]
      clear hb ho
      go_wp2_with fail
      refine (lex_any (s ++ (⟨#[32]⟩ : ByteArray) ++ t) _ HL3.out (by rw [← size_data, data_app, data_app]; simp only [List.length_append, size_data]; show s.size + 1 + t.size ≤ _; omega)).mono ?_
      rintro e w4 ⟨v, rfl, ho, hb⟩
      have HB4 : Hid (Below w.heap.size w w4) := Lib.hid (HB3.out.trans (hb.mono HB3.out.size))
      have HL4 := Lib.hid (HL0.out.below HB4.out h4)
      obtain ⟨a4, c4, rfl⟩ := ho.form
      rw [F2.out.1, F2.out.2]
      clear hb ho
      go_wp2_with fail
      refine (lex_any (s.extract i s.size) _ HL4.out (by simp; omega)).mono ?_
      rintro e w5 ⟨v, rfl, ho, hb⟩
      have HB5 : Hid (Below w.heap.size w w5) := Lib.hid (HB4.out.trans (hb.mono HB4.out.size))
      have HL5 := Lib.hid (HL0.out.below HB5.out h4)
      obtain ⟨a5, c5, rfl⟩ := ho.form
      rw [F3.out.1, F3.out.2]
      clear hb ho
      go_wp2
      go_ret
      exact ⟨by simp, HB5.out⟩
end Go.Proofs.YtagjiljhbdjlfaaDoor
