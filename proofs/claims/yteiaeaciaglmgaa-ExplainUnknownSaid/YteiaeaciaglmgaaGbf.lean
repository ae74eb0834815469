/- Layers EX33 EL1 Open OpenM OpenD EL4 EL5 RegC2 EL6: the walks and the plain laws under the last text, merged and cut to what it uses; nothing is assumed. -/
import Derived.Test.YteiaeaciaglmgaaRows
import Derived.ProofKit
import Derived.SizedLaws
import Derived.Deep.Slices
import Derived.Deep.Strs
import Derived.Lib.SmallJoins
import Derived.Test.YteiaeaciaglmgaaGbe
set_option linter.unusedVariables false
set_option linter.unusedSimpArgs false
namespace Go.Proofs.Yteiaeaciaglmgaa
open Go.RowKit
def TwoF (b : Bool) (x : Value) (w : World) : Prop := b = true → ∃ a, x = .agg #[.int .i64 2, .slice a 1 1] ∧ IsFlow w.heap.size w (.int .i64 2) (.slice a 1 1) s2
def TwoI (b : Bool) (x : Value) (w : World) : Prop := b = true → ∃ a, x = .slice a 2 2 ∧ IsInts w.heap.size w (.slice a 2 2) [2, 2]
theorem TwoF.ext {b : Bool} {x : Value} {w w' : World} (h : TwoF b x w) (hb : Below w.heap.size w w') : TwoF b x w' := fun e => by
 obtain ⟨a, h1, h2⟩ := h e
 exact ⟨a, h1, (h2.below hb (Nat.le_refl _)).mono hb.size⟩
theorem TwoI.ext {b : Bool} {x : Value} {w w' : World} (h : TwoI b x w) (hb : Below w.heap.size w w') : TwoI b x w' := fun e => by
 obtain ⟨a, h1, h2⟩ := h e
 exact ⟨a, h1, (h2.below hb (Nat.le_refl _)).mono hb.size⟩
theorem IsDen.leaf1 (B : Nat) (w : World) {i : Int} (hi : I64 i) : IsDen B w [.int .i64 (-1), .int .i64 0, .slice none 0 0, .int .i64 i] (.mk (-1) 0 [] i) := DenS.leaf _ _ hi
theorem wantD_lit {B k1 k2 : Nat} {w : World} (h1 : Box w k1 #[.int .i64 (-1), .int .i64 0, .slice none 0 0, .int .i64 1]) (h2 : Box w k2 #[.int .i64 0, .int .i64 1, .slice (some ⟨k1, 0, none⟩) 1 1, .int .i64 0, .int .i64 (-1), .int .i64 0, .slice none 0 0, .int .i64 0]) (hk1 : k1 < B) (hk2 : k2 < B) :
  IsDen B w [.int .i64 0, .int .i64 0, .slice (some ⟨k2, 0, none⟩) 2 2, .int .i64 0] wantD := by
 refine .mk 0 0 0 _ _ k2 0 2 (fun j => if j = 0 then [.int .i64 0, .int .i64 1, .slice (some ⟨k1, 0, none⟩) 1 1, .int .i64 0] else [.int .i64 (-1), .int .i64 0, .slice none 0 0, .int .i64 0]) ⟨_, rfl, by simp, by omega, .inl rfl⟩ (by unfold LK; simp) (by unfold I64; omega) (by unfold I64; omega) (by unfold I64; omega) (fun j hj => ⟨hk2, fun q u hq => ?_⟩) (fun j hj => ?_)
 ·have hj : j < 2 := hj
  rw [h2.2]
  by_cases e : j = 0
  ·subst e
   rw [if_pos rfl] at hq
   have hq4 : q < 4 := by have := (List.getElem?_eq_some_iff.1 hq).1; simpa using this
   rcases (show q = 0 ∨ q = 1 ∨ q = 2 ∨ q = 3 by omega) with rfl | rfl | rfl | rfl <;> simpa using hq
  ·obtain rfl : j = 1 := by omega
   rw [if_neg (by decide)] at hq
   have hq4 : q < 4 := by have := (List.getElem?_eq_some_iff.1 hq).1; simpa using this
   rcases (show q = 0 ∨ q = 1 ∨ q = 2 ∨ q = 3 by omega) with rfl | rfl | rfl | rfl <;> simpa using hq
 ·have hj : j < 2 := hj
  rcases (show j = 0 ∨ j = 1 by omega) with rfl | rfl
  ·refine .mk 0 1 0 _ _ k1 0 1 (fun _ => [.int .i64 (-1), .int .i64 0, .slice none 0 0, .int .i64 1]) ⟨_, rfl, by simp, by omega, .inl rfl⟩ (by unfold LK; simp) (by unfold I64; omega) (by unfold I64; omega) (by unfold I64; omega) (fun j hj => ⟨hk1, fun q u hq => ?_⟩) (fun j hj => ?_)
   ·have hj : j < 1 := hj
    obtain rfl : j = 0 := by omega
    rw [h1.2]
    have hq4 : q < 4 := by have := (List.getElem?_eq_some_iff.1 hq).1; simpa using this
    rcases (show q = 0 ∨ q = 1 ∨ q = 2 ∨ q = 3 by omega) with rfl | rfl | rfl | rfl <;> simpa using hq
   ·have hj : j < 1 := hj
    obtain rfl : j = 0 := by omega
    exact DenS.leaf _ _ (by unfold I64; omega)
  ·exact DenS.leaf _ _ (by unfold I64; omega)
set_option maxHeartbeats 16000000 in
set_option maxRecDepth 100000 in
/-- sane -/
theorem sane29_any (w : World) : Calls Try.prog 9 #[] w fun e w' => e = .returned (.bool true) ∧ Below w.heap.size w w' := by
 obtain ⟨w0, hw0⟩ : ∃ x, w = x := ⟨_, rfl⟩
 rw [hw0]
 clear hw0
 go_enter Try.func9, Try.ntmps9
 go_wp2_with fail
 refine (two29_any _).mono ?_
 rintro e w1 ⟨a1, rfl, hf, hb⟩
 have HF1 := Lib.hid hf
 have HS1 := Lib.hid hb
 clear hf hb
 have HQ1 : Hid (Below w1.heap.size w1 (w1.alloc (Obj.cells (#[.int .i64 3, .int .i64 2] : Array Value) 3))) := Lib.hid (((Below.refl w1.heap.size w1).alloc (by first | omega | (simp; omega) | simp) _))
 have HG1 : Hid (IsFlow (w1.heap.size + 1) (w1.alloc (Obj.cells (#[.int .i64 3, .int .i64 2] : Array Value) 3)) (.int .i64 2) (.slice a1 1 1) s2) := Lib.hid ((HF1.out.below HQ1.out (Nat.le_refl _)).mono (by first | omega | (simp; omega) | simp))
 have HL1 : Hid (IsInts (w1.heap.size + 1) (w1.alloc (Obj.cells (#[.int .i64 3, .int .i64 2] : Array Value) 3)) (.slice (some ⟨w1.heap.size, 0, none⟩) 2 2) [3, 2]) := Lib.hid (litInts (b := w1.heap.size) rfl (by decide) (by omega) (by simp [I64]) (by omega) (by have h := Box.new w1 (#[.int .i64 3, .int .i64 2] : Array Value) 3; first | exact h | simpa using h))
 have HC1 := Lib.hid (emake_any (w1.heap.size + 1) (w1.alloc (Obj.cells (#[.int .i64 3, .int .i64 2] : Array Value) 3)) _ _ _ s2 [3, 2] HG1.out HL1.out (by simp))
 rw [s2_make.1, s2_make.2.1, s2_make.2.2] at HC1
 go_wp2_with fail
 refine HC1.out.mono ?_
 rintro e w2 ⟨v2, rfl, hm, hb⟩
 obtain ⟨bm2, om2, cm2, ⟨am2, rfl, _⟩, _⟩ := id hm
 have HV2 := Lib.hid hm
 clear hm
 have HS2 : Hid (Below w1.heap.size w1 w2) := Lib.hid (HQ1.out.trans (hb.mono (by first | omega | (simp; omega) | simp)))
 clear hb
 go_wp2_with fail
 refine (two29_any _).mono ?_
 rintro e w3 ⟨a3, rfl, hf, hb⟩
 have HF3 := Lib.hid hf
 have HS3 := Lib.hid hb
 clear hf hb
 have HQ3 : Hid (Below w3.heap.size w3 (((w3.alloc (Obj.cells (#[.int .i64 3, .int .i64 2] : Array Value) 3)).alloc (Obj.cells (#[.int .i64 1, .int .i64 0] : Array Value) 3)).alloc (Obj.cells (#[.slice (some ⟨w3.heap.size + 1, 0, none⟩) 2 2] : Array Value) 25))) := Lib.hid (((((Below.refl w3.heap.size w3).alloc (by first | omega | (simp; omega) | simp) _).alloc (by first | omega | (simp; omega) | simp) _).alloc (by first | omega | (simp; omega) | simp) _))
 have HG3 : Hid (IsFlow (w3.heap.size + 1 + 1 + 1) (((w3.alloc (Obj.cells (#[.int .i64 3, .int .i64 2] : Array Value) 3)).alloc (Obj.cells (#[.int .i64 1, .int .i64 0] : Array Value) 3)).alloc (Obj.cells (#[.slice (some ⟨w3.heap.size + 1, 0, none⟩) 2 2] : Array Value) 25)) (.int .i64 2) (.slice a3 1 1) s2) := Lib.hid ((HF3.out.below HQ3.out (Nat.le_refl _)).mono (by first | omega | (simp; omega) | simp))
 have HL3 : Hid (IsInts (w3.heap.size + 1 + 1 + 1) (((w3.alloc (Obj.cells (#[.int .i64 3, .int .i64 2] : Array Value) 3)).alloc (Obj.cells (#[.int .i64 1, .int .i64 0] : Array Value) 3)).alloc (Obj.cells (#[.slice (some ⟨w3.heap.size + 1, 0, none⟩) 2 2] : Array Value) 25)) (.slice (some ⟨w3.heap.size, 0, none⟩) 2 2) [3, 2]) := Lib.hid (litInts (b := w3.heap.size) rfl (by decide) (by omega) (by simp [I64]) (by omega) (by have h := Box.new w3 (#[.int .i64 3, .int .i64 2] : Array Value) 3; have h := h.alloc (.cells (#[.int .i64 1, .int .i64 0] : Array Value) 3); have h := h.alloc (.cells (#[.slice (some ⟨w3.heap.size + 1, 0, none⟩) 2 2] : Array Value) 25); first | exact h | simpa using h))
 have HM3 : Hid (IsMat (w3.heap.size + 1 + 1 + 1) (((w3.alloc (Obj.cells (#[.int .i64 3, .int .i64 2] : Array Value) 3)).alloc (Obj.cells (#[.int .i64 1, .int .i64 0] : Array Value) 3)).alloc (Obj.cells (#[.slice (some ⟨w3.heap.size + 1, 0, none⟩) 2 2] : Array Value) 25)) (.slice (some ⟨w3.heap.size + 1 + 1, 0, none⟩) 1 1) [[1, 0]]) := Lib.hid (litMat1 (by have h := Box.new ((w3.alloc (Obj.cells (#[.int .i64 3, .int .i64 2] : Array Value) 3)).alloc (Obj.cells (#[.int .i64 1, .int .i64 0] : Array Value) 3)) (#[.slice (some ⟨w3.heap.size + 1, 0, none⟩) 2 2] : Array Value) 25; first | exact h | simpa using h) (by omega) (litInts (b := w3.heap.size + 1) rfl (by decide) (by omega) (by simp [I64]) (by omega) (by have h := Box.new (w3.alloc (Obj.cells (#[.int .i64 3, .int .i64 2] : Array Value) 3)) (#[.int .i64 1, .int .i64 0] : Array Value) 3; have h := h.alloc (.cells (#[.slice (some ⟨w3.heap.size + 1, 0, none⟩) 2 2] : Array Value) 25); first | exact h | simpa using h)))
 have HC3 := Lib.hid (echk_any (w3.heap.size + 1 + 1 + 1) (((w3.alloc (Obj.cells (#[.int .i64 3, .int .i64 2] : Array Value) 3)).alloc (Obj.cells (#[.int .i64 1, .int .i64 0] : Array Value) 3)).alloc (Obj.cells (#[.slice (some ⟨w3.heap.size + 1, 0, none⟩) 2 2] : Array Value) 25)) _ _ _ _ s2 [3, 2] [[1, 0]] HG3.out HL3.out HM3.out (by simp))
 rw [s2_make.1, s2_right.1] at HC3
 go_wp2_with fail
 refine HC3.out.mono ?_
 rintro e w4 ⟨rfl, hb⟩
 have HS4 : Hid (Below w3.heap.size w3 w4) := Lib.hid (HQ3.out.trans (hb.mono (by first | omega | (simp; omega) | simp)))
 clear hb
 go_wp2_with fail
 refine (two29_any _).mono ?_
 rintro e w5 ⟨a5, rfl, hf, hb⟩
 have HF5 := Lib.hid hf
 have HS5 := Lib.hid hb
 clear hf hb
 have HQ5 : Hid (Below w5.heap.size w5 (((w5.alloc (Obj.cells (#[.int .i64 3, .int .i64 2] : Array Value) 3)).alloc (Obj.cells (#[.int .i64 0, .int .i64 1] : Array Value) 3)).alloc (Obj.cells (#[.slice (some ⟨w5.heap.size + 1, 0, none⟩) 2 2] : Array Value) 25))) := Lib.hid (((((Below.refl w5.heap.size w5).alloc (by first | omega | (simp; omega) | simp) _).alloc (by first | omega | (simp; omega) | simp) _).alloc (by first | omega | (simp; omega) | simp) _))
 have HG5 : Hid (IsFlow (w5.heap.size + 1 + 1 + 1) (((w5.alloc (Obj.cells (#[.int .i64 3, .int .i64 2] : Array Value) 3)).alloc (Obj.cells (#[.int .i64 0, .int .i64 1] : Array Value) 3)).alloc (Obj.cells (#[.slice (some ⟨w5.heap.size + 1, 0, none⟩) 2 2] : Array Value) 25)) (.int .i64 2) (.slice a5 1 1) s2) := Lib.hid ((HF5.out.below HQ5.out (Nat.le_refl _)).mono (by first | omega | (simp; omega) | simp))
 have HL5 : Hid (IsInts (w5.heap.size + 1 + 1 + 1) (((w5.alloc (Obj.cells (#[.int .i64 3, .int .i64 2] : Array Value) 3)).alloc (Obj.cells (#[.int .i64 0, .int .i64 1] : Array Value) 3)).alloc (Obj.cells (#[.slice (some ⟨w5.heap.size + 1, 0, none⟩) 2 2] : Array Value) 25)) (.slice (some ⟨w5.heap.size, 0, none⟩) 2 2) [3, 2]) := Lib.hid (litInts (b := w5.heap.size) rfl (by decide) (by omega) (by simp [I64]) (by omega) (by have h := Box.new w5 (#[.int .i64 3, .int .i64 2] : Array Value) 3; have h := h.alloc (.cells (#[.int .i64 0, .int .i64 1] : Array Value) 3); have h := h.alloc (.cells (#[.slice (some ⟨w5.heap.size + 1, 0, none⟩) 2 2] : Array Value) 25); first | exact h | simpa using h))
 have HM5 : Hid (IsMat (w5.heap.size + 1 + 1 + 1) (((w5.alloc (Obj.cells (#[.int .i64 3, .int .i64 2] : Array Value) 3)).alloc (Obj.cells (#[.int .i64 0, .int .i64 1] : Array Value) 3)).alloc (Obj.cells (#[.slice (some ⟨w5.heap.size + 1, 0, none⟩) 2 2] : Array Value) 25)) (.slice (some ⟨w5.heap.size + 1 + 1, 0, none⟩) 1 1) [[0, 1]]) := Lib.hid (litMat1 (by have h := Box.new ((w5.alloc (Obj.cells (#[.int .i64 3, .int .i64 2] : Array Value) 3)).alloc (Obj.cells (#[.int .i64 0, .int .i64 1] : Array Value) 3)) (#[.slice (some ⟨w5.heap.size + 1, 0, none⟩) 2 2] : Array Value) 25; first | exact h | simpa using h) (by omega) (litInts (b := w5.heap.size + 1) rfl (by decide) (by omega) (by simp [I64]) (by omega) (by have h := Box.new (w5.alloc (Obj.cells (#[.int .i64 3, .int .i64 2] : Array Value) 3)) (#[.int .i64 0, .int .i64 1] : Array Value) 3; have h := h.alloc (.cells (#[.slice (some ⟨w5.heap.size + 1, 0, none⟩) 2 2] : Array Value) 25); first | exact h | simpa using h)))
 have HC5 := Lib.hid (echk_any (w5.heap.size + 1 + 1 + 1) (((w5.alloc (Obj.cells (#[.int .i64 3, .int .i64 2] : Array Value) 3)).alloc (Obj.cells (#[.int .i64 0, .int .i64 1] : Array Value) 3)).alloc (Obj.cells (#[.slice (some ⟨w5.heap.size + 1, 0, none⟩) 2 2] : Array Value) 25)) _ _ _ _ s2 [3, 2] [[0, 1]] HG5.out HL5.out HM5.out (by simp))
 rw [s2_make.1, s2_right.2] at HC5
 go_wp2_with fail
 refine HC5.out.mono ?_
 rintro e w6 ⟨rfl, hb⟩
 have HS6 : Hid (Below w5.heap.size w5 w6) := Lib.hid (HQ5.out.trans (hb.mono (by first | omega | (simp; omega) | simp)))
 clear hb
 go_wp2_with fail
 refine (two29_any _).mono ?_
 rintro e w7 ⟨a7, rfl, hf, hb⟩
 have HF7 := Lib.hid hf
 have HS7 := Lib.hid hb
 clear hf hb
 have HQ7 : Hid (Below w7.heap.size w7 (w7.alloc (Obj.cells (#[.int .i64 3, .int .i64 2] : Array Value) 3))) := Lib.hid (((Below.refl w7.heap.size w7).alloc (by first | omega | (simp; omega) | simp) _))
 have HG7 : Hid (IsFlow (w7.heap.size + 1) (w7.alloc (Obj.cells (#[.int .i64 3, .int .i64 2] : Array Value) 3)) (.int .i64 2) (.slice a7 1 1) s2) := Lib.hid ((HF7.out.below HQ7.out (Nat.le_refl _)).mono (by first | omega | (simp; omega) | simp))
 have HL7 : Hid (IsInts (w7.heap.size + 1) (w7.alloc (Obj.cells (#[.int .i64 3, .int .i64 2] : Array Value) 3)) (.slice (some ⟨w7.heap.size, 0, none⟩) 2 2) [3, 2]) := Lib.hid (litInts (b := w7.heap.size) rfl (by decide) (by omega) (by simp [I64]) (by omega) (by have h := Box.new w7 (#[.int .i64 3, .int .i64 2] : Array Value) 3; first | exact h | simpa using h))
 have HC7 := Lib.hid (edeny_any (w7.heap.size + 1) (w7.alloc (Obj.cells (#[.int .i64 3, .int .i64 2] : Array Value) 3)) _ _ _ s2 [3, 2] HG7.out HL7.out (by simp))
 rw [s2_make.1, s2_deny.1] at HC7
 go_wp2_with fail
 refine HC7.out.mono ?_
 rintro e w8 ⟨y0, y1, y2, y3, rfl, hd, hb⟩
 obtain ⟨l80, l81, ad8, nd8, cd8, l83, rfl, rfl, rfl, rfl⟩ := hd.form6
 have HD8 : Hid (IsDen w8.heap.size w8 _ _) := Lib.hid (DenS.mono hd (fun q hq => hq.2))
 clear hd
 have HS8 : Hid (Below w7.heap.size w7 w8) := Lib.hid (HQ7.out.trans (hb.mono (by first | omega | (simp; omega) | simp)))
 clear hb
 go_upto_region 5 with fail
 refine wp_name (fun w9 hw => ?_)
 have HS9 : Hid (Below w8.heap.size w8 w9) := Lib.hid (by rw [hw]; exact box_below' w8 _)
 have HX9 : Hid (Box w9 w8.heap.size #[.int .i64 l80, .int .i64 l81, .slice ad8 nd8 cd8, .int .i64 l83]) := Lib.hid (by rw [hw]; exact Box.new w8 _ _)
 clear hw
 go_wp2_with fail
 refine (two29_any _).mono ?_
 rintro e w10 ⟨a10, rfl, hf, hb⟩
 have HF10 := Lib.hid hf
 have HS10 := Lib.hid hb
 clear hf hb
 have HQ10 : Hid (Below w10.heap.size w10 (w10.alloc (Obj.cells (#[.int .i64 2, .int .i64 2] : Array Value) 3))) := Lib.hid (((Below.refl w10.heap.size w10).alloc (by first | omega | (simp; omega) | simp) _))
 have HG10 : Hid (IsFlow (w10.heap.size + 1) (w10.alloc (Obj.cells (#[.int .i64 2, .int .i64 2] : Array Value) 3)) (.int .i64 2) (.slice a10 1 1) s2) := Lib.hid ((HF10.out.below HQ10.out (Nat.le_refl _)).mono (by first | omega | (simp; omega) | simp))
 have HL10 : Hid (IsInts (w10.heap.size + 1) (w10.alloc (Obj.cells (#[.int .i64 2, .int .i64 2] : Array Value) 3)) (.slice (some ⟨w10.heap.size, 0, none⟩) 2 2) [2, 2]) := Lib.hid (litInts (b := w10.heap.size) rfl (by decide) (by omega) (by simp [I64]) (by omega) (by have h := Box.new w10 (#[.int .i64 2, .int .i64 2] : Array Value) 3; first | exact h | simpa using h))
 have HC10 := Lib.hid (edeny_any (w10.heap.size + 1) (w10.alloc (Obj.cells (#[.int .i64 2, .int .i64 2] : Array Value) 3)) _ _ _ s2 [2, 2] HG10.out HL10.out (by simp))
 rw [s2_deny.2.2, s2_deny.2.1, s2_den] at HC10
 go_wp2_with fail
 refine HC10.out.mono ?_
 rintro e w11 ⟨y0, y1, y2, y3, rfl, hd, hb⟩
 obtain ⟨l110, l111, ad11, nd11, cd11, l113, rfl, rfl, rfl, rfl⟩ := hd.form6
 have HD11 : Hid (IsDen w11.heap.size w11 _ _) := Lib.hid (DenS.mono hd (fun q hq => hq.2))
 clear hd
 have HS11 : Hid (Below w10.heap.size w10 w11) := Lib.hid (HQ10.out.trans (hb.mono (by first | omega | (simp; omega) | simp)))
 clear hb
 go_upto_region 6 with fail
 refine wp_name (fun w12 hw => ?_)
 have HS12 : Hid (Below w11.heap.size w11 w12) := Lib.hid (by rw [hw]; exact box_below' w11 _)
 have HX12 : Hid (Box w12 w11.heap.size #[.int .i64 l110, .int .i64 l111, .slice ad11 nd11 cd11, .int .i64 l113]) := Lib.hid (by rw [hw]; exact Box.new w11 _ _)
 clear hw
 go_upto_region 7 with fail
 refine wp_name (fun w13 hw => ?_)
 have HS13 : Hid (Below w12.heap.size w12 w13) := Lib.hid (by rw [hw]; exact ((((Below.refl w12.heap.size w12).alloc (by first | omega | (simp; omega) | simp) _).alloc (by first | omega | (simp; omega) | simp) _).alloc (by first | omega | (simp; omega) | simp) _))
 have HX13 : Hid (Box w13 (w12.heap.size + 1 + 1) #[.int .i64 0, .int .i64 0, .slice (some ⟨w12.heap.size + 1, 0, none⟩) 2 2, .int .i64 0]) := Lib.hid (by rw [hw]; have h := Box.new ((w12.alloc (Obj.cells (#[.int .i64 (-1), .int .i64 0, .slice none 0 0, .int .i64 1] : Array Value) 31)).alloc (Obj.cells (#[.int .i64 0, .int .i64 1, .slice (some ⟨w12.heap.size, 0, none⟩) 1 1, .int .i64 0, .int .i64 (-1), .int .i64 0, .slice none 0 0, .int .i64 0] : Array Value) 31)) (#[.int .i64 0, .int .i64 0, .slice (some ⟨w12.heap.size + 1, 0, none⟩) 2 2, .int .i64 0] : Array Value) 31; first | exact h | simpa using h)
 have HD13 : Hid (IsDen w13.heap.size w13 [.int .i64 0, .int .i64 0, .slice (some ⟨w12.heap.size + 1, 0, none⟩) 2 2, .int .i64 0] wantD) := Lib.hid (wantD_lit (k1 := w12.heap.size) (k2 := w12.heap.size + 1) (by rw [hw]; have h := (((Box.new w12 (#[.int .i64 (-1), .int .i64 0, .slice none 0 0, .int .i64 1] : Array Value) 31).alloc (.cells (#[.int .i64 0, .int .i64 1, .slice (some ⟨w12.heap.size, 0, none⟩) 1 1, .int .i64 0, .int .i64 (-1), .int .i64 0, .slice none 0 0, .int .i64 0] : Array Value) 31)).alloc (.cells (#[.int .i64 0, .int .i64 0, .slice (some ⟨w12.heap.size + 1, 0, none⟩) 2 2, .int .i64 0] : Array Value) 31)); exact h) (by rw [hw]; have h := (Box.new (w12.alloc (Obj.cells (#[.int .i64 (-1), .int .i64 0, .slice none 0 0, .int .i64 1] : Array Value) 31)) (#[.int .i64 0, .int .i64 1, .slice (some ⟨w12.heap.size, 0, none⟩) 1 1, .int .i64 0, .int .i64 (-1), .int .i64 0, .slice none 0 0, .int .i64 0] : Array Value) 31).alloc (.cells (#[.int .i64 0, .int .i64 0, .slice (some ⟨w12.heap.size + 1, 0, none⟩) 2 2, .int .i64 0] : Array Value) 31); first | exact h | simpa using h) (by rw [hw]; simp; try omega) (by rw [hw]; simp; try omega))
 clear hw
 obtain ⟨V, hV⟩ : ∃ V : List (Option Value), V = [none, none, some (.agg #[.int .i64 0, .int .i64 0, .slice (some ⟨w12.heap.size + 1, 0, none⟩) 2 2, .int .i64 0]), some (.tuple #[.bool true, .int .i64 0]), some (.tuple #[.bool true, .int .i64 0]), some (.bool true), some (.int .i64 0), some (.bool true), some (.int .i64 0)] := ⟨_, rfl⟩
 have HVV := Lib.hid hV
 clear hV
 refine wp_region_V [some 78, some 79, some 80, some 81, some 77, some 82, some 83, some 15, some 16] (fun L w' xs => ValsAt V L xs ∧ (Below w13.heap.size w13 w' ∧ TwoF (L 0) (xs 0) w' ∧ TwoI (L 1) (xs 1) w')) (by kernel_rfl) (by kernel_rfl) (by rfl) (by rfl) (by rfl) ?_ ?_ ?_
 focus
  exact fun xs => ⟨ValsAt.none _ _, (by exact below_drewN (Below.refl _ _) 1), (fun e => by cases e), (fun e => by cases e)⟩
 focus
  refine ⟨?_, ?_, ?_, ?_, ?_, ?_, ?_, ?_, ?_, trivial⟩
  all_goals
   intro L a' w' xs hi hd hf hJ K hK
   obtain ⟨hv, hA, hT, hI⟩ := hJ
   have HF := Lib.hid hf
   have HVA := Lib.hid hv
   have HLI := Lib.hid hi
   clear hf hv hi
  focus
   clear hd
   obtain ⟨ρ, hρ⟩ : ∃ ρ, a'.eval = ρ := ⟨_, rfl⟩
   have hcst : ∀ v, ρ (.const v) = v := fun v => (congrFun hρ (.const v)).symm
   have hfun : ∀ k, ρ (.func k) = .func (.func k) #[] #[] := fun k => (congrFun hρ (.func k)).symm
   rw [if_pos (by simp [Region.wanted])]
   unfold Oper.wp
   rw [hρ]
   clear hρ
   go_simp
   go_at_call 27
   refine (two29_any _).mono ?_
   rintro en w5 ⟨a5, rfl, hf5, hb5⟩
   exact hK.out _ _ ⟨HVA.out.free (i := 0) (by rw [HVV.out]; rfl) _, (by exact hA.trans (hb5.mono hA.size)), (by simp only [updV_self]; exact fun _ => ⟨a5, rfl, hf5⟩), (by simp only [updV_ne (xs := xs) (show (1 : Nat) ≠ 0 by decide)]; exact hI.ext hb5)⟩
  focus
   clear hd
   obtain ⟨ρ, hρ⟩ : ∃ ρ, a'.eval = ρ := ⟨_, rfl⟩
   have hcst : ∀ v, ρ (.const v) = v := fun v => (congrFun hρ (.const v)).symm
   rw [if_pos (by simp [Region.wanted])]
   unfold Oper.wp
   rw [hρ]
   clear hρ
   go_simp
   exact hK.out _ _ ⟨HVA.out.free (i := 1) (by rw [HVV.out]; rfl) _, (by exact hA.trans ((box_below' w' _).mono hA.size)), (by simp only [updV_ne (xs := xs) (show (0 : Nat) ≠ 1 by decide)]; exact hT.ext (box_below' w' _)), (by simp only [updV_self]; exact fun _ => ⟨some ⟨w'.heap.size, 0, none⟩, rfl, by simpa using (litInts (B := w'.heap.size + 1) (b := w'.heap.size) (xs := [2, 2]) (cap := 2) rfl (by decide) (by omega) (by simp [I64]) (by omega) (Box.new w' #[.int .i64 2, .int .i64 2] 3))⟩)⟩
  focus
   clear hd
   obtain ⟨ρ, hρ⟩ : ∃ ρ, a'.eval = ρ := ⟨_, rfl⟩
   have hcst : ∀ v, ρ (.const v) = v := fun v => (congrFun hρ (.const v)).symm
   have l14 : ρ (.tmp 14) = .pointer (some ⟨w12.heap.size + 1 + 1, 0, none⟩) := (congrFun hρ (.tmp 14)).symm.trans (HF.out.lo 14 rfl)
   have m0 := (hA.cell (p := ⟨w12.heap.size + 1 + 1, 0, none⟩) HX13.out.1).trans (HX13.out.2 0)
   have m1 := (hA.cell (p := ⟨w12.heap.size + 1 + 1, 1, none⟩) HX13.out.1).trans (HX13.out.2 1)
   have m2 := (hA.cell (p := ⟨w12.heap.size + 1 + 1, 2, none⟩) HX13.out.1).trans (HX13.out.2 2)
   have m3 := (hA.cell (p := ⟨w12.heap.size + 1 + 1, 3, none⟩) HX13.out.1).trans (HX13.out.2 3)
   simp at m0 m1 m2 m3
   rw [if_pos (by simp [Region.wanted])]
   unfold Oper.wp
   rw [hρ]
   clear hρ
   go_simp
   exact hK.out _ _ ⟨HVA.out.set (i := 2) (by rw [HVV.out]; rfl), hA, (by simp only [updV_ne (xs := xs) (show (0 : Nat) ≠ 2 by decide), updV_ne (xs := xs) (show (1 : Nat) ≠ 2 by decide)]; exact hT), (by simp only [updV_ne (xs := xs) (show (0 : Nat) ≠ 2 by decide), updV_ne (xs := xs) (show (1 : Nat) ≠ 2 by decide)]; exact hI)⟩
  focus
   obtain ⟨d0, d1, d2, _, _⟩ := hd
   obtain ⟨ρ, hρ⟩ : ∃ ρ, a'.eval = ρ := ⟨_, rfl⟩
   have hcst : ∀ v, ρ (.const v) = v := fun v => (congrFun hρ (.const v)).symm
   have hfun : ∀ k, ρ (.func k) = .func (.func k) #[] #[] := fun k => (congrFun hρ (.func k)).symm
   have v0 : ρ (.tmp 78) = xs 0 := (congrFun hρ (.tmp 78)).symm.trans (HF.out.ev 0 rfl d0)
   have v1 : ρ (.tmp 79) = xs 1 := (congrFun hρ (.tmp 79)).symm.trans (HF.out.ev 1 rfl d1)
   have v2 : ρ (.tmp 80) = .agg #[.int .i64 0, .int .i64 0, .slice (some ⟨w12.heap.size + 1, 0, none⟩) 2 2, .int .i64 0] := (congrFun hρ (.tmp 80)).symm.trans ((HF.out.ev 2 rfl d2).trans (HVA.out 2 _ (by rw [HVV.out]; rfl) d2))
   rw [if_pos (by simp [Region.wanted])]
   unfold Oper.wp
   rw [hρ]
   clear hρ
   obtain ⟨a5, e5, hf5⟩ := hT d0
   obtain ⟨a6, e6, hi6⟩ := hI d1
   rw [e5] at v0
   rw [e6] at v1
   have HCC := Lib.hid (erefutes_any w'.heap.size w' _ _ _ _ s2 [2, 2] wantD hf5 hi6 ((HD13.out.below hA (Nat.le_refl _)).mono hA.size) (Nat.le_refl _))
   rw [s2_ref.1, s2_deny.2.2] at HCC
   go_simp
   go_at_call 18
   refine HCC.out.mono ?_
   rintro en w5 ⟨rfl, hb5⟩
   exact hK.out _ _ ⟨HVA.out.set (i := 3) (by rw [HVV.out]; rfl), (by exact hA.trans (hb5.mono hA.size)), (by simp only [updV_ne (xs := xs) (show (0 : Nat) ≠ 3 by decide), updV_ne (xs := xs) (show (1 : Nat) ≠ 3 by decide)]; exact hT.ext hb5), (by simp only [updV_ne (xs := xs) (show (0 : Nat) ≠ 3 by decide), updV_ne (xs := xs) (show (1 : Nat) ≠ 3 by decide)]; exact hI.ext hb5)⟩
  focus
   obtain ⟨d3, _⟩ := hd
   obtain ⟨ρ, hρ⟩ : ∃ ρ, a'.eval = ρ := ⟨_, rfl⟩
   have hcst : ∀ v, ρ (.const v) = v := fun v => (congrFun hρ (.const v)).symm
   have v3 : ρ (.tmp 81) = .tuple #[.bool true, .int .i64 0] := (congrFun hρ (.tmp 81)).symm.trans ((HF.out.ev 3 rfl d3).trans (HVA.out 3 _ (by rw [HVV.out]; rfl) d3))
   rw [if_pos (by simp [Region.wanted])]
   unfold Oper.wp
   rw [hρ]
   clear hρ
   go_simp
   exact hK.out _ _ ⟨HVA.out.set (i := 4) (by rw [HVV.out]; rfl), hA, (by simp only [updV_ne (xs := xs) (show (0 : Nat) ≠ 4 by decide), updV_ne (xs := xs) (show (1 : Nat) ≠ 4 by decide)]; exact hT), (by simp only [updV_ne (xs := xs) (show (0 : Nat) ≠ 4 by decide), updV_ne (xs := xs) (show (1 : Nat) ≠ 4 by decide)]; exact hI)⟩
  focus
   obtain ⟨d4, _⟩ := hd
   obtain ⟨ρ, hρ⟩ : ∃ ρ, a'.eval = ρ := ⟨_, rfl⟩
   have hcst : ∀ v, ρ (.const v) = v := fun v => (congrFun hρ (.const v)).symm
   have v4 : ρ (.tmp 77) = .tuple #[.bool true, .int .i64 0] := (congrFun hρ (.tmp 77)).symm.trans ((HF.out.ev 4 rfl d4).trans (HVA.out 4 _ (by rw [HVV.out]; rfl) d4))
   rw [if_pos (by simp [Region.wanted])]
   unfold Oper.wp
   rw [hρ]
   clear hρ
   go_simp
   exact hK.out _ _ ⟨HVA.out.set (i := 5) (by rw [HVV.out]; rfl), hA, (by simp only [updV_ne (xs := xs) (show (0 : Nat) ≠ 5 by decide), updV_ne (xs := xs) (show (1 : Nat) ≠ 5 by decide)]; exact hT), (by simp only [updV_ne (xs := xs) (show (0 : Nat) ≠ 5 by decide), updV_ne (xs := xs) (show (1 : Nat) ≠ 5 by decide)]; exact hI)⟩
  focus
   obtain ⟨d4, _⟩ := hd
   obtain ⟨ρ, hρ⟩ : ∃ ρ, a'.eval = ρ := ⟨_, rfl⟩
   have hcst : ∀ v, ρ (.const v) = v := fun v => (congrFun hρ (.const v)).symm
   have v4 : ρ (.tmp 77) = .tuple #[.bool true, .int .i64 0] := (congrFun hρ (.tmp 77)).symm.trans ((HF.out.ev 4 rfl d4).trans (HVA.out 4 _ (by rw [HVV.out]; rfl) d4))
   rw [if_pos (by simp [Region.wanted])]
   unfold Oper.wp
   rw [hρ]
   clear hρ
   go_simp
   exact hK.out _ _ ⟨HVA.out.set (i := 6) (by rw [HVV.out]; rfl), hA, (by simp only [updV_ne (xs := xs) (show (0 : Nat) ≠ 6 by decide), updV_ne (xs := xs) (show (1 : Nat) ≠ 6 by decide)]; exact hT), (by simp only [updV_ne (xs := xs) (show (0 : Nat) ≠ 6 by decide), updV_ne (xs := xs) (show (1 : Nat) ≠ 6 by decide)]; exact hI)⟩
  focus
   obtain ⟨d5, d3, d0, d1, d2, _, d4, _, _⟩ := hd
   obtain ⟨ρ, hρ⟩ : ∃ ρ, a'.eval = ρ := ⟨_, rfl⟩
   have hcst : ∀ v, ρ (.const v) = v := fun v => (congrFun hρ (.const v)).symm
   have v5 : ρ (.tmp 82) = .bool true := (congrFun hρ (.tmp 82)).symm.trans ((HF.out.ev 5 rfl d5).trans (HVA.out 5 _ (by rw [HVV.out]; rfl) d5))
   rw [if_pos (by simp [Region.wanted])]
   unfold Oper.wp
   rw [hρ]
   clear hρ
   go_simp
   exact hK.out _ _ ⟨HVA.out.set (i := 7) (by rw [HVV.out]; rfl), hA, (by simp only [updV_ne (xs := xs) (show (0 : Nat) ≠ 7 by decide), updV_ne (xs := xs) (show (1 : Nat) ≠ 7 by decide)]; exact hT), (by simp only [updV_ne (xs := xs) (show (0 : Nat) ≠ 7 by decide), updV_ne (xs := xs) (show (1 : Nat) ≠ 7 by decide)]; exact hI)⟩
  focus
   obtain ⟨d6, d7, d0, d1, d2, d3, d4, d5, _, _, _⟩ := hd
   obtain ⟨ρ, hρ⟩ : ∃ ρ, a'.eval = ρ := ⟨_, rfl⟩
   have hcst : ∀ v, ρ (.const v) = v := fun v => (congrFun hρ (.const v)).symm
   have v6 : ρ (.tmp 83) = .int .i64 0 := (congrFun hρ (.tmp 83)).symm.trans ((HF.out.ev 6 rfl d6).trans (HVA.out 6 _ (by rw [HVV.out]; rfl) d6))
   rw [if_pos (by simp [Region.wanted])]
   unfold Oper.wp
   rw [hρ]
   clear hρ
   go_simp
   exact hK.out _ _ ⟨HVA.out.set (i := 8) (by rw [HVV.out]; rfl), hA, (by simp only [updV_ne (xs := xs) (show (0 : Nat) ≠ 8 by decide), updV_ne (xs := xs) (show (1 : Nat) ≠ 8 by decide)]; exact hT), (by simp only [updV_ne (xs := xs) (show (0 : Nat) ≠ 8 by decide), updV_ne (xs := xs) (show (1 : Nat) ≠ 8 by decide)]; exact hI)⟩
 focus
  intro L w' xs hL hJ
  obtain ⟨hv, hA, hT, hI⟩ := hJ
  have e2 : xs 2 = .agg #[.int .i64 0, .int .i64 0, .slice (some ⟨w12.heap.size + 1, 0, none⟩) 2 2, .int .i64 0] := hv 2 _ (by rw [HVV.out]; rfl) (hL 2 (by decide))
  have e3 : xs 3 = .tuple #[.bool true, .int .i64 0] := hv 3 _ (by rw [HVV.out]; rfl) (hL 3 (by decide))
  have e4 : xs 4 = .tuple #[.bool true, .int .i64 0] := hv 4 _ (by rw [HVV.out]; rfl) (hL 4 (by decide))
  have e5 : xs 5 = .bool true := hv 5 _ (by rw [HVV.out]; rfl) (hL 5 (by decide))
  have e6 : xs 6 = .int .i64 0 := hv 6 _ (by rw [HVV.out]; rfl) (hL 6 (by decide))
  have e7 : xs 7 = .bool true := hv 7 _ (by rw [HVV.out]; rfl) (hL 7 (by decide))
  have e8 : xs 8 = .int .i64 0 := hv 8 _ (by rw [HVV.out]; rfl) (hL 8 (by decide))
  simp only [putGo, Act.put, List.setIfInBounds_toArray, List.set_cons_zero, List.set_cons_succ, e2, e3, e4, e5, e6, e7, e8]
  clear hv e2 e3 e4 e5 e6 e7 e8
 obtain ⟨w14, hw⟩ : ∃ x, w' = x := ⟨_, rfl⟩
 rw [hw] at hA ⊢
 have HS14 : Hid (Below w13.heap.size w13 w14) := Lib.hid hA
 clear hw hA hT hI hL
 go_wp2_with fail
 refine (two29_any _).mono ?_
 rintro e w15 ⟨a15, rfl, hf, hb⟩
 have HF15 := Lib.hid hf
 have HS15 := Lib.hid hb
 clear hf hb
 have HQ15 : Hid (Below w15.heap.size w15 (w15.alloc (Obj.cells (#[.int .i64 2, .int .i64 2] : Array Value) 3))) := Lib.hid (((Below.refl w15.heap.size w15).alloc (by first | omega | (simp; omega) | simp) _))
 have HG15 : Hid (IsFlow (w15.heap.size + 1) (w15.alloc (Obj.cells (#[.int .i64 2, .int .i64 2] : Array Value) 3)) (.int .i64 2) (.slice a15 1 1) s2) := Lib.hid ((HF15.out.below HQ15.out (Nat.le_refl _)).mono (by first | omega | (simp; omega) | simp))
 have HL15 : Hid (IsInts (w15.heap.size + 1) (w15.alloc (Obj.cells (#[.int .i64 2, .int .i64 2] : Array Value) 3)) (.slice (some ⟨w15.heap.size, 0, none⟩) 2 2) [2, 2]) := Lib.hid (litInts (b := w15.heap.size) rfl (by decide) (by omega) (by simp [I64]) (by omega) (by have h := Box.new w15 (#[.int .i64 2, .int .i64 2] : Array Value) 3; first | exact h | simpa using h))
 have HC15 := Lib.hid (erefutes_any (w15.heap.size + 1) (w15.alloc (Obj.cells (#[.int .i64 2, .int .i64 2] : Array Value) 3)) _ _ _ _ s2 [2, 2] noD HG15.out HL15.out (DenS.zero _ _) (by simp))
 rw [s2_ref.2, s2_deny.2.2] at HC15
 go_wp2_with fail
 refine HC15.out.mono ?_
 rintro e w16 ⟨rfl, hb⟩
 have HS16 : Hid (Below w15.heap.size w15 w16) := Lib.hid (HQ15.out.trans (hb.mono (by first | omega | (simp; omega) | simp)))
 clear hb
 have HQ16 : Hid (Below w16.heap.size w16 w16) := Lib.hid ((Below.refl w16.heap.size w16))
 have HG16 : Hid (IsFlow (w16.heap.size) w16 (.int .i64 0) (.slice none 0 0) s0) := Lib.hid ⟨rfl, by simp [s0, I64], noLots⟩
 have HL16 : Hid (IsInts (w16.heap.size) w16 (.slice none 0 0) []) := Lib.hid noInts
 have HC16 := Lib.hid (emake_any (w16.heap.size) w16 _ _ _ s0 [] HG16.out HL16.out (by simp))
 rw [s0_make.1, s0_make.2.1, s0_make.2.2] at HC16
 go_wp2_with fail
 refine HC16.out.mono ?_
 rintro e w17 ⟨v17, rfl, hm, hb⟩
 obtain ⟨bm17, om17, cm17, ⟨am17, rfl, _⟩, _⟩ := id hm
 have HV17 := Lib.hid hm
 clear hm
 have HS17 : Hid (Below w16.heap.size w16 w17) := Lib.hid (HQ16.out.trans (hb.mono (by first | omega | (simp; omega) | simp)))
 clear hb
 have HQ17 : Hid (Below w17.heap.size w17 (w17.alloc (Obj.cells (#[.int .i64 1] : Array Value) 3))) := Lib.hid (((Below.refl w17.heap.size w17).alloc (by first | omega | (simp; omega) | simp) _))
 have HG17 : Hid (IsFlow (w17.heap.size + 1) (w17.alloc (Obj.cells (#[.int .i64 1] : Array Value) 3)) (.int .i64 1) (.slice none 0 0) s1) := Lib.hid ⟨rfl, by simp [s1, I64], noLots⟩
 have HL17 : Hid (IsInts (w17.heap.size + 1) (w17.alloc (Obj.cells (#[.int .i64 1] : Array Value) 3)) (.slice (some ⟨w17.heap.size, 0, none⟩) 1 1) [1]) := Lib.hid (litInts (b := w17.heap.size) rfl (by decide) (by omega) (by simp [I64]) (by omega) (by have h := Box.new w17 (#[.int .i64 1] : Array Value) 3; first | exact h | simpa using h))
 have HC17 := Lib.hid (emake_any (w17.heap.size + 1) (w17.alloc (Obj.cells (#[.int .i64 1] : Array Value) 3)) _ _ _ s1 [1] HG17.out HL17.out (by simp))
 rw [s1_make.1, s1_make.2.1] at HC17
 go_wp2_with fail
 refine HC17.out.mono ?_
 rintro e w18 ⟨v18, rfl, hm, hb⟩
 obtain ⟨bm18, om18, cm18, ⟨am18, rfl, _⟩, _⟩ := id hm
 have HV18 := Lib.hid hm
 clear hm
 have HS18 : Hid (Below w17.heap.size w17 w18) := Lib.hid (HQ17.out.trans (hb.mono (by first | omega | (simp; omega) | simp)))
 clear hb
 have HQ18 : Hid (Below w18.heap.size w18 (w18.alloc (Obj.cells (#[.int .i64 1] : Array Value) 3))) := Lib.hid (((Below.refl w18.heap.size w18).alloc (by first | omega | (simp; omega) | simp) _))
 have HG18 : Hid (IsFlow (w18.heap.size + 1) (w18.alloc (Obj.cells (#[.int .i64 1] : Array Value) 3)) (.int .i64 1) (.slice none 0 0) s1) := Lib.hid ⟨rfl, by simp [s1, I64], noLots⟩
 have HL18 : Hid (IsInts (w18.heap.size + 1) (w18.alloc (Obj.cells (#[.int .i64 1] : Array Value) 3)) (.slice (some ⟨w18.heap.size, 0, none⟩) 1 1) [1]) := Lib.hid (litInts (b := w18.heap.size) rfl (by decide) (by omega) (by simp [I64]) (by omega) (by have h := Box.new w18 (#[.int .i64 1] : Array Value) 3; first | exact h | simpa using h))
 have HC18 := Lib.hid (edeny_any (w18.heap.size + 1) (w18.alloc (Obj.cells (#[.int .i64 1] : Array Value) 3)) _ _ _ s1 [1] HG18.out HL18.out (by simp))
 rw [s1_make.1, s1_make.2.2, s1_den] at HC18
 go_wp2_with fail
 refine HC18.out.mono ?_
 rintro e w19 ⟨y0, y1, y2, y3, rfl, hd, hb⟩
 obtain ⟨l190, l191, ad19, nd19, cd19, l193, rfl, rfl, rfl, rfl⟩ := hd.form6
 have HD19 : Hid (IsDen w19.heap.size w19 _ _) := Lib.hid (DenS.mono hd (fun q hq => hq.2))
 clear hd
 have HS19 : Hid (Below w18.heap.size w18 w19) := Lib.hid (HQ18.out.trans (hb.mono (by first | omega | (simp; omega) | simp)))
 clear hb
 go_upto_region 12 with fail
 refine wp_name (fun w20 hw => ?_)
 have HS20 : Hid (Below w19.heap.size w19 w20) := Lib.hid (by rw [hw]; exact box_below' w19 _)
 have HX20 : Hid (Box w20 w19.heap.size #[.int .i64 l190, .int .i64 l191, .slice ad19 nd19 cd19, .int .i64 l193]) := Lib.hid (by rw [hw]; exact Box.new w19 _ _)
 clear hw
 go_wp2_with fail
 refine (two29_any _).mono ?_
 rintro e w21 ⟨a21, rfl, hf, hb⟩
 have HF21 := Lib.hid hf
 have HS21 := Lib.hid hb
 clear hf hb
 have HQ21 : Hid (Below w21.heap.size w21 (w21.alloc (Obj.cells (#[.int .i64 3] : Array Value) 3))) := Lib.hid (((Below.refl w21.heap.size w21).alloc (by first | omega | (simp; omega) | simp) _))
 have HG21 : Hid (IsFlow (w21.heap.size + 1) (w21.alloc (Obj.cells (#[.int .i64 3] : Array Value) 3)) (.int .i64 2) (.slice a21 1 1) s2) := Lib.hid ((HF21.out.below HQ21.out (Nat.le_refl _)).mono (by first | omega | (simp; omega) | simp))
 have HL21 : Hid (IsInts (w21.heap.size + 1) (w21.alloc (Obj.cells (#[.int .i64 3] : Array Value) 3)) (.slice (some ⟨w21.heap.size, 0, none⟩) 1 1) [3]) := Lib.hid (litInts (b := w21.heap.size) rfl (by decide) (by omega) (by simp [I64]) (by omega) (by have h := Box.new w21 (#[.int .i64 3] : Array Value) 3; first | exact h | simpa using h))
 have HC21 := Lib.hid (emake_any (w21.heap.size + 1) (w21.alloc (Obj.cells (#[.int .i64 3] : Array Value) 3)) _ _ _ s2 [3] HG21.out HL21.out (by simp))
 rw [s2_short] at HC21
 go_wp2_with fail
 refine HC21.out.mono ?_
 rintro e w22 ⟨v22, rfl, hm, hb⟩
 obtain ⟨bm22, om22, cm22, ⟨am22, rfl, _⟩, _⟩ := id hm
 have HV22 := Lib.hid hm
 clear hm
 have HS22 : Hid (Below w21.heap.size w21 w22) := Lib.hid (HQ21.out.trans (hb.mono (by first | omega | (simp; omega) | simp)))
 clear hb
 have HQ22 : Hid (Below w22.heap.size w22 w22) := Lib.hid ((Below.refl w22.heap.size w22))
 have HG22 : Hid (IsFlow (w22.heap.size) w22 (.int .i64 (-1)) (.slice none 0 0) sN) := Lib.hid ⟨rfl, by simp [sN, I64], noLots⟩
 have HL22 : Hid (IsInts (w22.heap.size) w22 (.slice none 0 0) []) := Lib.hid noInts
 have HC22 := Lib.hid (edeny_any (w22.heap.size) w22 _ _ _ sN [] HG22.out HL22.out (by simp))
 rw [sN_err] at HC22
 go_wp2_with fail
 refine HC22.out.mono ?_
 rintro e w23 ⟨y0, y1, y2, y3, rfl, hd, hb⟩
 obtain ⟨l230, l231, ad23, nd23, cd23, l233, rfl, rfl, rfl, rfl⟩ := hd.form6
 have HD23 : Hid (IsDen w23.heap.size w23 _ _) := Lib.hid (DenS.mono hd (fun q hq => hq.2))
 clear hd
 have HS23 : Hid (Below w22.heap.size w22 w23) := Lib.hid (HQ22.out.trans (hb.mono (by first | omega | (simp; omega) | simp)))
 clear hb
 go_upto_region 14 with fail
 refine wp_name (fun w24 hw => ?_)
 have HS24 : Hid (Below w23.heap.size w23 w24) := Lib.hid (by rw [hw]; exact box_below' w23 _)
 have HX24 : Hid (Box w24 w23.heap.size #[.int .i64 l230, .int .i64 l231, .slice ad23 nd23 cd23, .int .i64 l233]) := Lib.hid (by rw [hw]; exact Box.new w23 _ _)
 clear hw
 skip
 go_upto_region 18 with fail
 have HQ24 : Hid (Below w24.heap.size w24 ((w24.alloc (Obj.cells (#[.int .i64 1, .int .i64 0] : Array Value) 3)).alloc (Obj.cells (#[.slice (some ⟨w24.heap.size, 0, none⟩) 2 2] : Array Value) 25))) := Lib.hid ((((Below.refl w24.heap.size w24).alloc (by first | omega | (simp; omega) | simp) _).alloc (by first | omega | (simp; omega) | simp) _))
 have HV0 : Hid (IsMat (w24.heap.size + 1 + 1) ((w24.alloc (Obj.cells (#[.int .i64 1, .int .i64 0] : Array Value) 3)).alloc (Obj.cells (#[.slice (some ⟨w24.heap.size, 0, none⟩) 2 2] : Array Value) 25)) _ [[1, 0]]) := Lib.hid ((HV2.out.below ((((((((((((((((((((((HS3.out.trans (HS4.out.mono (by have := HS3.out.size; omega))).trans (HS5.out.mono (by have := HS3.out.size; have := HS4.out.size; omega))).trans (HS6.out.mono (by have := HS3.out.size; have := HS4.out.size; have := HS5.out.size; omega))).trans (HS7.out.mono (by have := HS3.out.size; have := HS4.out.size; have := HS5.out.size; have := HS6.out.size; omega))).trans (HS8.out.mono (by have := HS3.out.size; have := HS4.out.size; have := HS5.out.size; have := HS6.out.size; have := HS7.out.size; omega))).trans (HS9.out.mono (by have := HS3.out.size; have := HS4.out.size; have := HS5.out.size; have := HS6.out.size; have := HS7.out.size; have := HS8.out.size; omega))).trans (HS10.out.mono (by have := HS3.out.size; have := HS4.out.size; have := HS5.out.size; have := HS6.out.size; have := HS7.out.size; have := HS8.out.size; have := HS9.out.size; omega))).trans (HS11.out.mono (by have := HS3.out.size; have := HS4.out.size; have := HS5.out.size; have := HS6.out.size; have := HS7.out.size; have := HS8.out.size; have := HS9.out.size; have := HS10.out.size; omega))).trans (HS12.out.mono (by have := HS3.out.size; have := HS4.out.size; have := HS5.out.size; have := HS6.out.size; have := HS7.out.size; have := HS8.out.size; have := HS9.out.size; have := HS10.out.size; have := HS11.out.size; omega))).trans (HS13.out.mono (by have := HS3.out.size; have := HS4.out.size; have := HS5.out.size; have := HS6.out.size; have := HS7.out.size; have := HS8.out.size; have := HS9.out.size; have := HS10.out.size; have := HS11.out.size; have := HS12.out.size; omega))).trans (HS14.out.mono (by have := HS3.out.size; have := HS4.out.size; have := HS5.out.size; have := HS6.out.size; have := HS7.out.size; have := HS8.out.size; have := HS9.out.size; have := HS10.out.size; have := HS11.out.size; have := HS12.out.size; have := HS13.out.size; omega))).trans (HS15.out.mono (by have := HS3.out.size; have := HS4.out.size; have := HS5.out.size; have := HS6.out.size; have := HS7.out.size; have := HS8.out.size; have := HS9.out.size; have := HS10.out.size; have := HS11.out.size; have := HS12.out.size; have := HS13.out.size; have := HS14.out.size; omega))).trans (HS16.out.mono (by have := HS3.out.size; have := HS4.out.size; have := HS5.out.size; have := HS6.out.size; have := HS7.out.size; have := HS8.out.size; have := HS9.out.size; have := HS10.out.size; have := HS11.out.size; have := HS12.out.size; have := HS13.out.size; have := HS14.out.size; have := HS15.out.size; omega))).trans (HS17.out.mono (by have := HS3.out.size; have := HS4.out.size; have := HS5.out.size; have := HS6.out.size; have := HS7.out.size; have := HS8.out.size; have := HS9.out.size; have := HS10.out.size; have := HS11.out.size; have := HS12.out.size; have := HS13.out.size; have := HS14.out.size; have := HS15.out.size; have := HS16.out.size; omega))).trans (HS18.out.mono (by have := HS3.out.size; have := HS4.out.size; have := HS5.out.size; have := HS6.out.size; have := HS7.out.size; have := HS8.out.size; have := HS9.out.size; have := HS10.out.size; have := HS11.out.size; have := HS12.out.size; have := HS13.out.size; have := HS14.out.size; have := HS15.out.size; have := HS16.out.size; have := HS17.out.size; omega))).trans (HS19.out.mono (by have := HS3.out.size; have := HS4.out.size; have := HS5.out.size; have := HS6.out.size; have := HS7.out.size; have := HS8.out.size; have := HS9.out.size; have := HS10.out.size; have := HS11.out.size; have := HS12.out.size; have := HS13.out.size; have := HS14.out.size; have := HS15.out.size; have := HS16.out.size; have := HS17.out.size; have := HS18.out.size; omega))).trans (HS20.out.mono (by have := HS3.out.size; have := HS4.out.size; have := HS5.out.size; have := HS6.out.size; have := HS7.out.size; have := HS8.out.size; have := HS9.out.size; have := HS10.out.size; have := HS11.out.size; have := HS12.out.size; have := HS13.out.size; have := HS14.out.size; have := HS15.out.size; have := HS16.out.size; have := HS17.out.size; have := HS18.out.size; have := HS19.out.size; omega))).trans (HS21.out.mono (by have := HS3.out.size; have := HS4.out.size; have := HS5.out.size; have := HS6.out.size; have := HS7.out.size; have := HS8.out.size; have := HS9.out.size; have := HS10.out.size; have := HS11.out.size; have := HS12.out.size; have := HS13.out.size; have := HS14.out.size; have := HS15.out.size; have := HS16.out.size; have := HS17.out.size; have := HS18.out.size; have := HS19.out.size; have := HS20.out.size; omega))).trans (HS22.out.mono (by have := HS3.out.size; have := HS4.out.size; have := HS5.out.size; have := HS6.out.size; have := HS7.out.size; have := HS8.out.size; have := HS9.out.size; have := HS10.out.size; have := HS11.out.size; have := HS12.out.size; have := HS13.out.size; have := HS14.out.size; have := HS15.out.size; have := HS16.out.size; have := HS17.out.size; have := HS18.out.size; have := HS19.out.size; have := HS20.out.size; have := HS21.out.size; omega))).trans (HS23.out.mono (by have := HS3.out.size; have := HS4.out.size; have := HS5.out.size; have := HS6.out.size; have := HS7.out.size; have := HS8.out.size; have := HS9.out.size; have := HS10.out.size; have := HS11.out.size; have := HS12.out.size; have := HS13.out.size; have := HS14.out.size; have := HS15.out.size; have := HS16.out.size; have := HS17.out.size; have := HS18.out.size; have := HS19.out.size; have := HS20.out.size; have := HS21.out.size; have := HS22.out.size; omega))).trans (HS24.out.mono (by have := HS3.out.size; have := HS4.out.size; have := HS5.out.size; have := HS6.out.size; have := HS7.out.size; have := HS8.out.size; have := HS9.out.size; have := HS10.out.size; have := HS11.out.size; have := HS12.out.size; have := HS13.out.size; have := HS14.out.size; have := HS15.out.size; have := HS16.out.size; have := HS17.out.size; have := HS18.out.size; have := HS19.out.size; have := HS20.out.size; have := HS21.out.size; have := HS22.out.size; have := HS23.out.size; omega))).trans (HQ24.out.mono (by have := HS3.out.size; have := HS4.out.size; have := HS5.out.size; have := HS6.out.size; have := HS7.out.size; have := HS8.out.size; have := HS9.out.size; have := HS10.out.size; have := HS11.out.size; have := HS12.out.size; have := HS13.out.size; have := HS14.out.size; have := HS15.out.size; have := HS16.out.size; have := HS17.out.size; have := HS18.out.size; have := HS19.out.size; have := HS20.out.size; have := HS21.out.size; have := HS22.out.size; have := HS23.out.size; have := HS24.out.size; omega))) (Nat.le_refl _)).mono (by have := (((((((((((((((((((((HS3.out.trans (HS4.out.mono (by have := HS3.out.size; omega))).trans (HS5.out.mono (by have := HS3.out.size; have := HS4.out.size; omega))).trans (HS6.out.mono (by have := HS3.out.size; have := HS4.out.size; have := HS5.out.size; omega))).trans (HS7.out.mono (by have := HS3.out.size; have := HS4.out.size; have := HS5.out.size; have := HS6.out.size; omega))).trans (HS8.out.mono (by have := HS3.out.size; have := HS4.out.size; have := HS5.out.size; have := HS6.out.size; have := HS7.out.size; omega))).trans (HS9.out.mono (by have := HS3.out.size; have := HS4.out.size; have := HS5.out.size; have := HS6.out.size; have := HS7.out.size; have := HS8.out.size; omega))).trans (HS10.out.mono (by have := HS3.out.size; have := HS4.out.size; have := HS5.out.size; have := HS6.out.size; have := HS7.out.size; have := HS8.out.size; have := HS9.out.size; omega))).trans (HS11.out.mono (by have := HS3.out.size; have := HS4.out.size; have := HS5.out.size; have := HS6.out.size; have := HS7.out.size; have := HS8.out.size; have := HS9.out.size; have := HS10.out.size; omega))).trans (HS12.out.mono (by have := HS3.out.size; have := HS4.out.size; have := HS5.out.size; have := HS6.out.size; have := HS7.out.size; have := HS8.out.size; have := HS9.out.size; have := HS10.out.size; have := HS11.out.size; omega))).trans (HS13.out.mono (by have := HS3.out.size; have := HS4.out.size; have := HS5.out.size; have := HS6.out.size; have := HS7.out.size; have := HS8.out.size; have := HS9.out.size; have := HS10.out.size; have := HS11.out.size; have := HS12.out.size; omega))).trans (HS14.out.mono (by have := HS3.out.size; have := HS4.out.size; have := HS5.out.size; have := HS6.out.size; have := HS7.out.size; have := HS8.out.size; have := HS9.out.size; have := HS10.out.size; have := HS11.out.size; have := HS12.out.size; have := HS13.out.size; omega))).trans (HS15.out.mono (by have := HS3.out.size; have := HS4.out.size; have := HS5.out.size; have := HS6.out.size; have := HS7.out.size; have := HS8.out.size; have := HS9.out.size; have := HS10.out.size; have := HS11.out.size; have := HS12.out.size; have := HS13.out.size; have := HS14.out.size; omega))).trans (HS16.out.mono (by have := HS3.out.size; have := HS4.out.size; have := HS5.out.size; have := HS6.out.size; have := HS7.out.size; have := HS8.out.size; have := HS9.out.size; have := HS10.out.size; have := HS11.out.size; have := HS12.out.size; have := HS13.out.size; have := HS14.out.size; have := HS15.out.size; omega))).trans (HS17.out.mono (by have := HS3.out.size; have := HS4.out.size; have := HS5.out.size; have := HS6.out.size; have := HS7.out.size; have := HS8.out.size; have := HS9.out.size; have := HS10.out.size; have := HS11.out.size; have := HS12.out.size; have := HS13.out.size; have := HS14.out.size; have := HS15.out.size; have := HS16.out.size; omega))).trans (HS18.out.mono (by have := HS3.out.size; have := HS4.out.size; have := HS5.out.size; have := HS6.out.size; have := HS7.out.size; have := HS8.out.size; have := HS9.out.size; have := HS10.out.size; have := HS11.out.size; have := HS12.out.size; have := HS13.out.size; have := HS14.out.size; have := HS15.out.size; have := HS16.out.size; have := HS17.out.size; omega))).trans (HS19.out.mono (by have := HS3.out.size; have := HS4.out.size; have := HS5.out.size; have := HS6.out.size; have := HS7.out.size; have := HS8.out.size; have := HS9.out.size; have := HS10.out.size; have := HS11.out.size; have := HS12.out.size; have := HS13.out.size; have := HS14.out.size; have := HS15.out.size; have := HS16.out.size; have := HS17.out.size; have := HS18.out.size; omega))).trans (HS20.out.mono (by have := HS3.out.size; have := HS4.out.size; have := HS5.out.size; have := HS6.out.size; have := HS7.out.size; have := HS8.out.size; have := HS9.out.size; have := HS10.out.size; have := HS11.out.size; have := HS12.out.size; have := HS13.out.size; have := HS14.out.size; have := HS15.out.size; have := HS16.out.size; have := HS17.out.size; have := HS18.out.size; have := HS19.out.size; omega))).trans (HS21.out.mono (by have := HS3.out.size; have := HS4.out.size; have := HS5.out.size; have := HS6.out.size; have := HS7.out.size; have := HS8.out.size; have := HS9.out.size; have := HS10.out.size; have := HS11.out.size; have := HS12.out.size; have := HS13.out.size; have := HS14.out.size; have := HS15.out.size; have := HS16.out.size; have := HS17.out.size; have := HS18.out.size; have := HS19.out.size; have := HS20.out.size; omega))).trans (HS22.out.mono (by have := HS3.out.size; have := HS4.out.size; have := HS5.out.size; have := HS6.out.size; have := HS7.out.size; have := HS8.out.size; have := HS9.out.size; have := HS10.out.size; have := HS11.out.size; have := HS12.out.size; have := HS13.out.size; have := HS14.out.size; have := HS15.out.size; have := HS16.out.size; have := HS17.out.size; have := HS18.out.size; have := HS19.out.size; have := HS20.out.size; have := HS21.out.size; omega))).trans (HS23.out.mono (by have := HS3.out.size; have := HS4.out.size; have := HS5.out.size; have := HS6.out.size; have := HS7.out.size; have := HS8.out.size; have := HS9.out.size; have := HS10.out.size; have := HS11.out.size; have := HS12.out.size; have := HS13.out.size; have := HS14.out.size; have := HS15.out.size; have := HS16.out.size; have := HS17.out.size; have := HS18.out.size; have := HS19.out.size; have := HS20.out.size; have := HS21.out.size; have := HS22.out.size; omega))).trans (HS24.out.mono (by have := HS3.out.size; have := HS4.out.size; have := HS5.out.size; have := HS6.out.size; have := HS7.out.size; have := HS8.out.size; have := HS9.out.size; have := HS10.out.size; have := HS11.out.size; have := HS12.out.size; have := HS13.out.size; have := HS14.out.size; have := HS15.out.size; have := HS16.out.size; have := HS17.out.size; have := HS18.out.size; have := HS19.out.size; have := HS20.out.size; have := HS21.out.size; have := HS22.out.size; have := HS23.out.size; omega))).size; omega))
 have HN0 : Hid (IsMat (w24.heap.size + 1 + 1) ((w24.alloc (Obj.cells (#[.int .i64 1, .int .i64 0] : Array Value) 3)).alloc (Obj.cells (#[.slice (some ⟨w24.heap.size, 0, none⟩) 2 2] : Array Value) 25)) (.slice (some ⟨w24.heap.size + 1, 0, none⟩) 1 1) [[1, 0]]) := Lib.hid (litMat1 (by have h := Box.new (w24.alloc (Obj.cells (#[.int .i64 1, .int .i64 0] : Array Value) 3)) (#[.slice (some ⟨w24.heap.size, 0, none⟩) 2 2] : Array Value) 25; first | exact h | simpa using h) (by omega) (litInts (b := w24.heap.size) rfl (by decide) (by omega) (by simp [I64]) (by omega) (by have h := Box.new w24 (#[.int .i64 1, .int .i64 0] : Array Value) 3; have h := h.alloc (.cells (#[.slice (some ⟨w24.heap.size, 0, none⟩) 2 2] : Array Value) 25); first | exact h | simpa using h)))
 go_wp2_with fail
 refine (sameway29_any (w24.heap.size + 1 + 1) (w24.heap.size + 1 + 1) _ _ _ _ _ HV0.out HN0.out).mono ?_
 rintro e w25 ⟨rfl, hd⟩
 have hb := hd.below (w24.heap.size + 1 + 1)
 clear hd
 rw [show sameM [[1, 0]] [[1, 0]] = true from by decide]
 have HS25 : Hid (Below w24.heap.size w24 w25) := Lib.hid (HQ24.out.trans (hb.mono (by first | omega | (simp; omega) | simp)))
 clear hb
 have hxcp := HX12.out.below ((((((((((((HS13.out.trans (HS14.out.mono (by have := HS13.out.size; omega))).trans (HS15.out.mono (by have := HS13.out.size; have := HS14.out.size; omega))).trans (HS16.out.mono (by have := HS13.out.size; have := HS14.out.size; have := HS15.out.size; omega))).trans (HS17.out.mono (by have := HS13.out.size; have := HS14.out.size; have := HS15.out.size; have := HS16.out.size; omega))).trans (HS18.out.mono (by have := HS13.out.size; have := HS14.out.size; have := HS15.out.size; have := HS16.out.size; have := HS17.out.size; omega))).trans (HS19.out.mono (by have := HS13.out.size; have := HS14.out.size; have := HS15.out.size; have := HS16.out.size; have := HS17.out.size; have := HS18.out.size; omega))).trans (HS20.out.mono (by have := HS13.out.size; have := HS14.out.size; have := HS15.out.size; have := HS16.out.size; have := HS17.out.size; have := HS18.out.size; have := HS19.out.size; omega))).trans (HS21.out.mono (by have := HS13.out.size; have := HS14.out.size; have := HS15.out.size; have := HS16.out.size; have := HS17.out.size; have := HS18.out.size; have := HS19.out.size; have := HS20.out.size; omega))).trans (HS22.out.mono (by have := HS13.out.size; have := HS14.out.size; have := HS15.out.size; have := HS16.out.size; have := HS17.out.size; have := HS18.out.size; have := HS19.out.size; have := HS20.out.size; have := HS21.out.size; omega))).trans (HS23.out.mono (by have := HS13.out.size; have := HS14.out.size; have := HS15.out.size; have := HS16.out.size; have := HS17.out.size; have := HS18.out.size; have := HS19.out.size; have := HS20.out.size; have := HS21.out.size; have := HS22.out.size; omega))).trans (HS24.out.mono (by have := HS13.out.size; have := HS14.out.size; have := HS15.out.size; have := HS16.out.size; have := HS17.out.size; have := HS18.out.size; have := HS19.out.size; have := HS20.out.size; have := HS21.out.size; have := HS22.out.size; have := HS23.out.size; omega))).trans (HS25.out.mono (by have := HS13.out.size; have := HS14.out.size; have := HS15.out.size; have := HS16.out.size; have := HS17.out.size; have := HS18.out.size; have := HS19.out.size; have := HS20.out.size; have := HS21.out.size; have := HS22.out.size; have := HS23.out.size; have := HS24.out.size; omega))) HX12.out.1
 have cp0 := hxcp.2 0
 have cp1 := hxcp.2 1
 have cp2 := hxcp.2 2
 have cp3 := hxcp.2 3
 simp at cp0 cp1 cp2 cp3
 clear hxcp
 have hxcw := HX13.out.below (((((((((((HS14.out.trans (HS15.out.mono (by have := HS14.out.size; omega))).trans (HS16.out.mono (by have := HS14.out.size; have := HS15.out.size; omega))).trans (HS17.out.mono (by have := HS14.out.size; have := HS15.out.size; have := HS16.out.size; omega))).trans (HS18.out.mono (by have := HS14.out.size; have := HS15.out.size; have := HS16.out.size; have := HS17.out.size; omega))).trans (HS19.out.mono (by have := HS14.out.size; have := HS15.out.size; have := HS16.out.size; have := HS17.out.size; have := HS18.out.size; omega))).trans (HS20.out.mono (by have := HS14.out.size; have := HS15.out.size; have := HS16.out.size; have := HS17.out.size; have := HS18.out.size; have := HS19.out.size; omega))).trans (HS21.out.mono (by have := HS14.out.size; have := HS15.out.size; have := HS16.out.size; have := HS17.out.size; have := HS18.out.size; have := HS19.out.size; have := HS20.out.size; omega))).trans (HS22.out.mono (by have := HS14.out.size; have := HS15.out.size; have := HS16.out.size; have := HS17.out.size; have := HS18.out.size; have := HS19.out.size; have := HS20.out.size; have := HS21.out.size; omega))).trans (HS23.out.mono (by have := HS14.out.size; have := HS15.out.size; have := HS16.out.size; have := HS17.out.size; have := HS18.out.size; have := HS19.out.size; have := HS20.out.size; have := HS21.out.size; have := HS22.out.size; omega))).trans (HS24.out.mono (by have := HS14.out.size; have := HS15.out.size; have := HS16.out.size; have := HS17.out.size; have := HS18.out.size; have := HS19.out.size; have := HS20.out.size; have := HS21.out.size; have := HS22.out.size; have := HS23.out.size; omega))).trans (HS25.out.mono (by have := HS14.out.size; have := HS15.out.size; have := HS16.out.size; have := HS17.out.size; have := HS18.out.size; have := HS19.out.size; have := HS20.out.size; have := HS21.out.size; have := HS22.out.size; have := HS23.out.size; have := HS24.out.size; omega))) HX13.out.1
 have cw0 := hxcw.2 0
 have cw1 := hxcw.2 1
 have cw2 := hxcw.2 2
 have cw3 := hxcw.2 3
 simp at cw0 cw1 cw2 cw3
 clear hxcw
 have HDP : Hid (IsDen w25.heap.size w25 [.int .i64 l110, .int .i64 l111, .slice ad11 nd11 cd11, .int .i64 l113] wantD) := Lib.hid ((HD11.out.below (((((((((((((HS12.out.trans (HS13.out.mono (by have := HS12.out.size; omega))).trans (HS14.out.mono (by have := HS12.out.size; have := HS13.out.size; omega))).trans (HS15.out.mono (by have := HS12.out.size; have := HS13.out.size; have := HS14.out.size; omega))).trans (HS16.out.mono (by have := HS12.out.size; have := HS13.out.size; have := HS14.out.size; have := HS15.out.size; omega))).trans (HS17.out.mono (by have := HS12.out.size; have := HS13.out.size; have := HS14.out.size; have := HS15.out.size; have := HS16.out.size; omega))).trans (HS18.out.mono (by have := HS12.out.size; have := HS13.out.size; have := HS14.out.size; have := HS15.out.size; have := HS16.out.size; have := HS17.out.size; omega))).trans (HS19.out.mono (by have := HS12.out.size; have := HS13.out.size; have := HS14.out.size; have := HS15.out.size; have := HS16.out.size; have := HS17.out.size; have := HS18.out.size; omega))).trans (HS20.out.mono (by have := HS12.out.size; have := HS13.out.size; have := HS14.out.size; have := HS15.out.size; have := HS16.out.size; have := HS17.out.size; have := HS18.out.size; have := HS19.out.size; omega))).trans (HS21.out.mono (by have := HS12.out.size; have := HS13.out.size; have := HS14.out.size; have := HS15.out.size; have := HS16.out.size; have := HS17.out.size; have := HS18.out.size; have := HS19.out.size; have := HS20.out.size; omega))).trans (HS22.out.mono (by have := HS12.out.size; have := HS13.out.size; have := HS14.out.size; have := HS15.out.size; have := HS16.out.size; have := HS17.out.size; have := HS18.out.size; have := HS19.out.size; have := HS20.out.size; have := HS21.out.size; omega))).trans (HS23.out.mono (by have := HS12.out.size; have := HS13.out.size; have := HS14.out.size; have := HS15.out.size; have := HS16.out.size; have := HS17.out.size; have := HS18.out.size; have := HS19.out.size; have := HS20.out.size; have := HS21.out.size; have := HS22.out.size; omega))).trans (HS24.out.mono (by have := HS12.out.size; have := HS13.out.size; have := HS14.out.size; have := HS15.out.size; have := HS16.out.size; have := HS17.out.size; have := HS18.out.size; have := HS19.out.size; have := HS20.out.size; have := HS21.out.size; have := HS22.out.size; have := HS23.out.size; omega))).trans (HS25.out.mono (by have := HS12.out.size; have := HS13.out.size; have := HS14.out.size; have := HS15.out.size; have := HS16.out.size; have := HS17.out.size; have := HS18.out.size; have := HS19.out.size; have := HS20.out.size; have := HS21.out.size; have := HS22.out.size; have := HS23.out.size; have := HS24.out.size; omega))) (Nat.le_refl _)).mono (by have := HS12.out.size; have := HS13.out.size; have := HS14.out.size; have := HS15.out.size; have := HS16.out.size; have := HS17.out.size; have := HS18.out.size; have := HS19.out.size; have := HS20.out.size; have := HS21.out.size; have := HS22.out.size; have := HS23.out.size; have := HS24.out.size; have := HS25.out.size; omega))
 have HDW : Hid (IsDen w25.heap.size w25 [.int .i64 0, .int .i64 0, .slice (some ⟨w12.heap.size + 1, 0, none⟩) 2 2, .int .i64 0] wantD) := Lib.hid ((HD13.out.below (((((((((((HS14.out.trans (HS15.out.mono (by have := HS14.out.size; omega))).trans (HS16.out.mono (by have := HS14.out.size; have := HS15.out.size; omega))).trans (HS17.out.mono (by have := HS14.out.size; have := HS15.out.size; have := HS16.out.size; omega))).trans (HS18.out.mono (by have := HS14.out.size; have := HS15.out.size; have := HS16.out.size; have := HS17.out.size; omega))).trans (HS19.out.mono (by have := HS14.out.size; have := HS15.out.size; have := HS16.out.size; have := HS17.out.size; have := HS18.out.size; omega))).trans (HS20.out.mono (by have := HS14.out.size; have := HS15.out.size; have := HS16.out.size; have := HS17.out.size; have := HS18.out.size; have := HS19.out.size; omega))).trans (HS21.out.mono (by have := HS14.out.size; have := HS15.out.size; have := HS16.out.size; have := HS17.out.size; have := HS18.out.size; have := HS19.out.size; have := HS20.out.size; omega))).trans (HS22.out.mono (by have := HS14.out.size; have := HS15.out.size; have := HS16.out.size; have := HS17.out.size; have := HS18.out.size; have := HS19.out.size; have := HS20.out.size; have := HS21.out.size; omega))).trans (HS23.out.mono (by have := HS14.out.size; have := HS15.out.size; have := HS16.out.size; have := HS17.out.size; have := HS18.out.size; have := HS19.out.size; have := HS20.out.size; have := HS21.out.size; have := HS22.out.size; omega))).trans (HS24.out.mono (by have := HS14.out.size; have := HS15.out.size; have := HS16.out.size; have := HS17.out.size; have := HS18.out.size; have := HS19.out.size; have := HS20.out.size; have := HS21.out.size; have := HS22.out.size; have := HS23.out.size; omega))).trans (HS25.out.mono (by have := HS14.out.size; have := HS15.out.size; have := HS16.out.size; have := HS17.out.size; have := HS18.out.size; have := HS19.out.size; have := HS20.out.size; have := HS21.out.size; have := HS22.out.size; have := HS23.out.size; have := HS24.out.size; omega))) (Nat.le_refl _)).mono (by have := HS14.out.size; have := HS15.out.size; have := HS16.out.size; have := HS17.out.size; have := HS18.out.size; have := HS19.out.size; have := HS20.out.size; have := HS21.out.size; have := HS22.out.size; have := HS23.out.size; have := HS24.out.size; have := HS25.out.size; omega))
 go_wp2_with fail
 refine (same29_any _ w25.heap.size _ _ _ wantD (Nat.le_refl _) HDP.out HDW.out (Nat.le_refl _)).mono ?_
 rintro e w26 ⟨rfl, hb⟩
 have HS26 := Lib.hid hb
 clear hb
 have hxco := HX20.out.below (((((HS21.out.trans (HS22.out.mono (by have := HS21.out.size; omega))).trans (HS23.out.mono (by have := HS21.out.size; have := HS22.out.size; omega))).trans (HS24.out.mono (by have := HS21.out.size; have := HS22.out.size; have := HS23.out.size; omega))).trans (HS25.out.mono (by have := HS21.out.size; have := HS22.out.size; have := HS23.out.size; have := HS24.out.size; omega))).trans (HS26.out.mono (by have := HS21.out.size; have := HS22.out.size; have := HS23.out.size; have := HS24.out.size; have := HS25.out.size; omega))) HX20.out.1
 have co0 := hxco.2 0
 have co1 := hxco.2 1
 have co2 := hxco.2 2
 have co3 := hxco.2 3
 simp at co0 co1 co2 co3
 clear hxco
 have HDO : Hid (IsDen w26.heap.size w26 [.int .i64 l190, .int .i64 l191, .slice ad19 nd19 cd19, .int .i64 l193] (leafD 0)) := Lib.hid ((HD19.out.below ((((((HS20.out.trans (HS21.out.mono (by have := HS20.out.size; omega))).trans (HS22.out.mono (by have := HS20.out.size; have := HS21.out.size; omega))).trans (HS23.out.mono (by have := HS20.out.size; have := HS21.out.size; have := HS22.out.size; omega))).trans (HS24.out.mono (by have := HS20.out.size; have := HS21.out.size; have := HS22.out.size; have := HS23.out.size; omega))).trans (HS25.out.mono (by have := HS20.out.size; have := HS21.out.size; have := HS22.out.size; have := HS23.out.size; have := HS24.out.size; omega))).trans (HS26.out.mono (by have := HS20.out.size; have := HS21.out.size; have := HS22.out.size; have := HS23.out.size; have := HS24.out.size; have := HS25.out.size; omega))) (Nat.le_refl _)).mono (by have := HS20.out.size; have := HS21.out.size; have := HS22.out.size; have := HS23.out.size; have := HS24.out.size; have := HS25.out.size; have := HS26.out.size; omega))
 go_wp2_with fail
 refine (same29_any _ w26.heap.size _ _ _ (leafD 0) (Nat.le_refl _) HDO.out (IsDen.leaf1 _ _ (by unfold I64; omega)) (Nat.le_refl _)).mono ?_
 rintro e w27 ⟨rfl, hb⟩
 have HS27 := Lib.hid hb
 clear hb
 go_wp2
 go_ret
 exact ⟨rfl, ((((((((((((((((((((((((((HS1.out.trans (HS2.out.mono (by have := HS1.out.size; omega))).trans (HS3.out.mono (by have := HS1.out.size; have := HS2.out.size; omega))).trans (HS4.out.mono (by have := HS1.out.size; have := HS2.out.size; have := HS3.out.size; omega))).trans (HS5.out.mono (by have := HS1.out.size; have := HS2.out.size; have := HS3.out.size; have := HS4.out.size; omega))).trans (HS6.out.mono (by have := HS1.out.size; have := HS2.out.size; have := HS3.out.size; have := HS4.out.size; have := HS5.out.size; omega))).trans (HS7.out.mono (by have := HS1.out.size; have := HS2.out.size; have := HS3.out.size; have := HS4.out.size; have := HS5.out.size; have := HS6.out.size; omega))).trans (HS8.out.mono (by have := HS1.out.size; have := HS2.out.size; have := HS3.out.size; have := HS4.out.size; have := HS5.out.size; have := HS6.out.size; have := HS7.out.size; omega))).trans (HS9.out.mono (by have := HS1.out.size; have := HS2.out.size; have := HS3.out.size; have := HS4.out.size; have := HS5.out.size; have := HS6.out.size; have := HS7.out.size; have := HS8.out.size; omega))).trans (HS10.out.mono (by have := HS1.out.size; have := HS2.out.size; have := HS3.out.size; have := HS4.out.size; have := HS5.out.size; have := HS6.out.size; have := HS7.out.size; have := HS8.out.size; have := HS9.out.size; omega))).trans (HS11.out.mono (by have := HS1.out.size; have := HS2.out.size; have := HS3.out.size; have := HS4.out.size; have := HS5.out.size; have := HS6.out.size; have := HS7.out.size; have := HS8.out.size; have := HS9.out.size; have := HS10.out.size; omega))).trans (HS12.out.mono (by have := HS1.out.size; have := HS2.out.size; have := HS3.out.size; have := HS4.out.size; have := HS5.out.size; have := HS6.out.size; have := HS7.out.size; have := HS8.out.size; have := HS9.out.size; have := HS10.out.size; have := HS11.out.size; omega))).trans (HS13.out.mono (by have := HS1.out.size; have := HS2.out.size; have := HS3.out.size; have := HS4.out.size; have := HS5.out.size; have := HS6.out.size; have := HS7.out.size; have := HS8.out.size; have := HS9.out.size; have := HS10.out.size; have := HS11.out.size; have := HS12.out.size; omega))).trans (HS14.out.mono (by have := HS1.out.size; have := HS2.out.size; have := HS3.out.size; have := HS4.out.size; have := HS5.out.size; have := HS6.out.size; have := HS7.out.size; have := HS8.out.size; have := HS9.out.size; have := HS10.out.size; have := HS11.out.size; have := HS12.out.size; have := HS13.out.size; omega))).trans (HS15.out.mono (by have := HS1.out.size; have := HS2.out.size; have := HS3.out.size; have := HS4.out.size; have := HS5.out.size; have := HS6.out.size; have := HS7.out.size; have := HS8.out.size; have := HS9.out.size; have := HS10.out.size; have := HS11.out.size; have := HS12.out.size; have := HS13.out.size; have := HS14.out.size; omega))).trans (HS16.out.mono (by have := HS1.out.size; have := HS2.out.size; have := HS3.out.size; have := HS4.out.size; have := HS5.out.size; have := HS6.out.size; have := HS7.out.size; have := HS8.out.size; have := HS9.out.size; have := HS10.out.size; have := HS11.out.size; have := HS12.out.size; have := HS13.out.size; have := HS14.out.size; have := HS15.out.size; omega))).trans (HS17.out.mono (by have := HS1.out.size; have := HS2.out.size; have := HS3.out.size; have := HS4.out.size; have := HS5.out.size; have := HS6.out.size; have := HS7.out.size; have := HS8.out.size; have := HS9.out.size; have := HS10.out.size; have := HS11.out.size; have := HS12.out.size; have := HS13.out.size; have := HS14.out.size; have := HS15.out.size; have := HS16.out.size; omega))).trans (HS18.out.mono (by have := HS1.out.size; have := HS2.out.size; have := HS3.out.size; have := HS4.out.size; have := HS5.out.size; have := HS6.out.size; have := HS7.out.size; have := HS8.out.size; have := HS9.out.size; have := HS10.out.size; have := HS11.out.size; have := HS12.out.size; have := HS13.out.size; have := HS14.out.size; have := HS15.out.size; have := HS16.out.size; have := HS17.out.size; omega))).trans (HS19.out.mono (by have := HS1.out.size; have := HS2.out.size; have := HS3.out.size; have := HS4.out.size; have := HS5.out.size; have := HS6.out.size; have := HS7.out.size; have := HS8.out.size; have := HS9.out.size; have := HS10.out.size; have := HS11.out.size; have := HS12.out.size; have := HS13.out.size; have := HS14.out.size; have := HS15.out.size; have := HS16.out.size; have := HS17.out.size; have := HS18.out.size; omega))).trans (HS20.out.mono (by have := HS1.out.size; have := HS2.out.size; have := HS3.out.size; have := HS4.out.size; have := HS5.out.size; have := HS6.out.size; have := HS7.out.size; have := HS8.out.size; have := HS9.out.size; have := HS10.out.size; have := HS11.out.size; have := HS12.out.size; have := HS13.out.size; have := HS14.out.size; have := HS15.out.size; have := HS16.out.size; have := HS17.out.size; have := HS18.out.size; have := HS19.out.size; omega))).trans (HS21.out.mono (by have := HS1.out.size; have := HS2.out.size; have := HS3.out.size; have := HS4.out.size; have := HS5.out.size; have := HS6.out.size; have := HS7.out.size; have := HS8.out.size; have := HS9.out.size; have := HS10.out.size; have := HS11.out.size; have := HS12.out.size; have := HS13.out.size; have := HS14.out.size; have := HS15.out.size; have := HS16.out.size; have := HS17.out.size; have := HS18.out.size; have := HS19.out.size; have := HS20.out.size; omega))).trans (HS22.out.mono (by have := HS1.out.size; have := HS2.out.size; have := HS3.out.size; have := HS4.out.size; have := HS5.out.size; have := HS6.out.size; have := HS7.out.size; have := HS8.out.size; have := HS9.out.size; have := HS10.out.size; have := HS11.out.size; have := HS12.out.size; have := HS13.out.size; have := HS14.out.size; have := HS15.out.size; have := HS16.out.size; have := HS17.out.size; have := HS18.out.size; have := HS19.out.size; have := HS20.out.size; have := HS21.out.size; omega))).trans (HS23.out.mono (by have := HS1.out.size; have := HS2.out.size; have := HS3.out.size; have := HS4.out.size; have := HS5.out.size; have := HS6.out.size; have := HS7.out.size; have := HS8.out.size; have := HS9.out.size; have := HS10.out.size; have := HS11.out.size; have := HS12.out.size; have := HS13.out.size; have := HS14.out.size; have := HS15.out.size; have := HS16.out.size; have := HS17.out.size; have := HS18.out.size; have := HS19.out.size; have := HS20.out.size; have := HS21.out.size; have := HS22.out.size; omega))).trans (HS24.out.mono (by have := HS1.out.size; have := HS2.out.size; have := HS3.out.size; have := HS4.out.size; have := HS5.out.size; have := HS6.out.size; have := HS7.out.size; have := HS8.out.size; have := HS9.out.size; have := HS10.out.size; have := HS11.out.size; have := HS12.out.size; have := HS13.out.size; have := HS14.out.size; have := HS15.out.size; have := HS16.out.size; have := HS17.out.size; have := HS18.out.size; have := HS19.out.size; have := HS20.out.size; have := HS21.out.size; have := HS22.out.size; have := HS23.out.size; omega))).trans (HS25.out.mono (by have := HS1.out.size; have := HS2.out.size; have := HS3.out.size; have := HS4.out.size; have := HS5.out.size; have := HS6.out.size; have := HS7.out.size; have := HS8.out.size; have := HS9.out.size; have := HS10.out.size; have := HS11.out.size; have := HS12.out.size; have := HS13.out.size; have := HS14.out.size; have := HS15.out.size; have := HS16.out.size; have := HS17.out.size; have := HS18.out.size; have := HS19.out.size; have := HS20.out.size; have := HS21.out.size; have := HS22.out.size; have := HS23.out.size; have := HS24.out.size; omega))).trans (HS26.out.mono (by have := HS1.out.size; have := HS2.out.size; have := HS3.out.size; have := HS4.out.size; have := HS5.out.size; have := HS6.out.size; have := HS7.out.size; have := HS8.out.size; have := HS9.out.size; have := HS10.out.size; have := HS11.out.size; have := HS12.out.size; have := HS13.out.size; have := HS14.out.size; have := HS15.out.size; have := HS16.out.size; have := HS17.out.size; have := HS18.out.size; have := HS19.out.size; have := HS20.out.size; have := HS21.out.size; have := HS22.out.size; have := HS23.out.size; have := HS24.out.size; have := HS25.out.size; omega))).trans (HS27.out.mono (by have := HS1.out.size; have := HS2.out.size; have := HS3.out.size; have := HS4.out.size; have := HS5.out.size; have := HS6.out.size; have := HS7.out.size; have := HS8.out.size; have := HS9.out.size; have := HS10.out.size; have := HS11.out.size; have := HS12.out.size; have := HS13.out.size; have := HS14.out.size; have := HS15.out.size; have := HS16.out.size; have := HS17.out.size; have := HS18.out.size; have := HS19.out.size; have := HS20.out.size; have := HS21.out.size; have := HS22.out.size; have := HS23.out.size; have := HS24.out.size; have := HS25.out.size; have := HS26.out.size; omega)))⟩
end Go.Proofs.Yteiaeaciaglmgaa
set_option linter.unusedVariables false
set_option linter.unusedSimpArgs false
namespace Go.Proofs.Yteiaeaciaglmgaa
open Go.RowKit
theorem noMat {B : Nat} {w : World} : IsMat B w (.slice none 0 0) [] := ⟨0, 0, 0, ⟨none, rfl, Nat.le_refl _, by omega, Or.inr rfl⟩, by simp, fun j hj => by simp at hj⟩
end Go.Proofs.Yteiaeaciaglmgaa
set_option linter.unusedVariables false
set_option linter.unusedSimpArgs false
namespace Go.Proofs.Yteiaeaciaglmgaa
open Go.ChangeShapes Go.WideShapes Go.ChangeAt Go.RowKit Go.Deep
theorem cell_spot {w : World} {a : Addr} {v : Value} (h : w.cell? a = some v) : a.spot = none ∧ a.block < w.heap.size := by
 unfold World.cell? at h
 split at h
 ·rename_i c t x hc
  refine ⟨?_, (Array.getElem?_eq_some_iff.1 hc).1⟩
  cases hs : a.spot with
  | none => rfl
  | some n => simp [hs] at h
 ·cases h
theorem I64.of_wf {n : Int} (h : (Lit.int .i64 n).wf = true) : I64 n := by
 simp [Lit.wf, IntKind.min, IntKind.max, IntKind.signed, IntKind.bits] at h
 unfold I64
 omega
variable {H : Type} {enc : TypeId × Value → H} {w : World}
theorem open_IsInts {fuel : Nat} {v : Value} {x : DataW H × List MemPlace} (h : DataW.trod enc Try.prog w 0 (fun _ => true) true fuel 25 [v] = some x)
  (hsz : ∀ n ∈ x.1.weights Try.prog 25, n ≤ reachBytes) : ∃ zs, IsInts w.heap.size w v zs := by
 have hb : Try.prog.bytesOf 3 = 8 := by kernel_rfl
 rcases open_ints Try.underlying25 Try.underlying3 (by kernel_rfl) h with ⟨hv, rfl⟩ | ⟨a, len, cap, zs, hv, _, hl, hm, hzl, rfl, hcell, hwf⟩
 ·cases hv
  exact ⟨[], 0, 0, 0, ⟨none, rfl, Nat.le_refl _, by omega, Or.inr rfl⟩, by simp, by simp, fun j hj => by simp at hj⟩
 ·cases hv
  simp only [if_true] at hzl
  have h8 := hsz (((lits .i64 (zs.take len) : List (DataW H)).length + (lits .i64 (zs.drop len) : List (DataW H)).length) * Try.prog.bytesOf 3) (by simp only [DataW.weights, Try.underlying25]; exact List.mem_cons_self)
  rw [hb] at h8
  have hlt : (lits .i64 (zs.take len) : List (DataW H)).length = len := by simp [lits]; omega
  have hld : (lits .i64 (zs.drop len) : List (DataW H)).length = cap - len := by simp [lits]; omega
  rw [hlt, hld] at h8
  unfold reachBytes at h8
  have hn : (zs.take len).length = len := by simp; omega
  refine ⟨zs.take len, a.block, a.off, cap, ⟨some a, by rw [hn], by omega, by unfold maxLen at hm; omega, ?_⟩, by omega, fun y hy => I64.of_wf (hwf y (List.mem_of_mem_take hy)), fun j hj => ?_⟩
  ·by_cases h0 : len = 0
   ·exact Or.inr (by omega)
   ·have := (cell_spot (hcell 0 (by omega))).1
    left
    obtain ⟨b, o, sp⟩ := a
    simp [Addr.add] at this
    rw [this]
  ·rw [hn] at hj
   have hc := hcell j (by omega)
   have h0 := (cell_spot (hcell 0 (by omega))).1
   have hb2 := (cell_spot hc).2
   obtain ⟨b, o, sp⟩ := a
   simp [Addr.add] at h0
   subst h0
   rw [add_plain] at hc hb2
   refine ⟨hb2, ?_⟩
   rw [hc]
   unfold nth
   rw [List.getD_eq_getElem?_getD, List.getD_eq_getElem?_getD, List.getElem?_take, if_pos hj]
theorem weightsAll_mem {P : Program} {e : TypeId} {d : DataW H} {n : Nat} : ∀ {l : List (DataW H)}, d ∈ l → n ∈ d.weights P e → n ∈ DataW.weightsAll P e l
 | [], h, _ => by cases h
 | x :: r, h, hn => by
  simp only [DataW.weightsAll, List.mem_append]
  rcases List.mem_cons.1 h with rfl | h
  ·exact Or.inl hn
  ·exact Or.inr (weightsAll_mem h hn)
set_option maxRecDepth 100000 in
theorem open_IsLot {fuel : Nat} {c : List Value} {x : DataW H × List MemPlace} (h : DataW.trod enc Try.prog w 0 (fun _ => true) true fuel 54 c = some x)
  (hsz : ∀ n ∈ x.1.weights Try.prog 54, n ≤ reachBytes) : ∃ vi vk vp d, c = [vi, vk, vp] ∧ IsLot w.heap.size w vi vk vp d := by
 obtain ⟨y0, y1, y2, n, rfl, hl, h0, h1, h2⟩ := trod_struct3 Try.underlying54 h
 have hC : Try.prog.cellsOf 54 = 3 := by kernel_rfl
 have k0 : Try.prog.cellsOf 25 = 1 := by kernel_rfl
 have k1 : Try.prog.cellsOf 4 = 1 := by kernel_rfl
 rw [hC] at hl
 match c, hl with
 | [vi, vk, vp], _ =>
  simp only [k0, k1, List.drop_zero, List.drop_succ_cons, List.take_succ_cons, List.take_zero] at h0 h1 h2
  obtain ⟨kb, hk, hy⟩ := DataW.trod_bool Try.underlying4 h1
  cases hk
  have hw : ∀ n ∈ DataW.weightsEach Try.prog [25, 4, 25] [y0.1, y1.1, y2.1], n ≤ reachBytes := by
   intro n hn
   refine hsz n ?_
   simp only [DataW.weights, Try.underlying54]
   exact hn
  obtain ⟨z0, i0⟩ := open_IsInts h0 (fun n hn => hw n (DataW.weights_mem_each (j := 0) (t := 25) rfl rfl n hn))
  obtain ⟨z2, i2⟩ := open_IsInts h2 (fun n hn => hw n (DataW.weights_mem_each (j := 2) (t := 25) rfl rfl n hn))
  exact ⟨vi, _, vp, ⟨z0, kb, z2⟩, rfl, i0, rfl, i2⟩
theorem open_IsLots {fuel : Nat} {v : Value} {x : DataW H × List MemPlace} (h : DataW.trod enc Try.prog w 0 (fun _ => true) true fuel 22 [v] = some x)
  (hsz : ∀ n ∈ x.1.weights Try.prog 22, n ≤ reachBytes) : ∃ ls, IsLots w.heap.size w v ls ∧ ls.length ≤ 2513169434843 := by
 have hC : Try.prog.cellsOf 54 = 3 := by kernel_rfl
 have hb : Try.prog.bytesOf 54 = 56 := by kernel_rfl
 rcases open_slice Try.underlying22 h with ⟨hv, rfl⟩ | ⟨a, len, cap, m, n, D, Pl, hv, _, hl, hm, hmm, rfl, hx⟩
 ·cases hv
  exact ⟨[], ⟨0, 0, 0, ⟨none, rfl, Nat.le_refl _, by omega, Or.inr rfl⟩, by simp, fun j hj => by simp at hj⟩, by simp⟩
 ·cases hv
  simp only [if_true] at hmm
  subst hmm
  have h8 := hsz ((((List.range len).map D).length + ((List.range (m - len)).map fun j => D (len + j)).length) * Try.prog.bytesOf 54) (by simp only [DataW.weights, Try.underlying22]; exact List.mem_cons_self)
  rw [hb] at h8
  simp only [List.length_map, List.length_range] at h8
  unfold reachBytes at h8
  have hel : ∀ i, i < len → ∃ vi vk vp d, (w.cells? 0 (a.add (i * 3)) 3 = some [vi, vk, vp]) ∧ IsLot w.heap.size w vi vk vp d := by
   intro i hi
   obtain ⟨cs', h1, h2⟩ := hx i (by omega)
   rw [hC] at h1
   obtain ⟨vi, vk, vp, d, rfl, hd⟩ := open_IsLot h2 (fun n hn => hsz n (by
    simp only [DataW.weights, Try.underlying22]
    exact List.mem_cons_of_mem _ (List.mem_append_left _ (weightsAll_mem (List.mem_map.2 ⟨i, List.mem_range.2 hi, rfl⟩) hn))))
   exact ⟨vi, vk, vp, d, h1, hd⟩
  obtain ⟨L, hL⟩ := choose_lt (α := Lot) (p := fun i d => ∃ vi vk vp, (w.cells? 0 (a.add (i * 3)) 3 = some [vi, vk, vp]) ∧ IsLot w.heap.size w vi vk vp d) (fun i hi => by
   obtain ⟨vi, vk, vp, d, h1, h2⟩ := hel i hi
   exact ⟨d, vi, vk, vp, h1, h2⟩)
  have hn : ((List.range len).map L).length = len := by simp
  have hsp : 0 < len → a.spot = none := by
   intro h0
   obtain ⟨vi, vk, vp, d, h1, _⟩ := hel 0 h0
   have := (World.cells?_some h1).2.2 0 (by omega)
   simp [Addr.add] at this
   exact (cell_spot this).1
  refine ⟨(List.range len).map L, ⟨a.block, a.off, m, ⟨some a, by rw [hn], by omega, by unfold maxLen at hm; omega, ?_⟩, by omega, fun j hj => ?_⟩, by omega⟩
  ·by_cases h0 : len = 0
   ·exact Or.inr (by omega)
   ·left
    have := hsp (by omega)
    obtain ⟨b, o, sp⟩ := a
    simp at this
    rw [this]
  ·rw [hn] at hj
   have h0 := hsp (by omega)
   obtain ⟨b, o, sp⟩ := a
   simp at h0
   subst h0
   obtain ⟨vi, vk, vp, h1, h2⟩ := hL j hj
   have hat : lotAt ((List.range len).map L) j = L j := by
    unfold lotAt
    rw [List.getD_eq_getElem?_getD]
    simp [hj]
   have hc := (World.cells?_some h1).2.2
   rw [add_plain] at hc
   have c0 := hc 0 (by omega)
   have c1 := hc 1 (by omega)
   have c2 := hc 2 (by omega)
   rw [add_plain] at c0 c1 c2
   rw [hat]
   exact ⟨vi, vk, vp, ⟨(cell_spot c0).2, c0⟩, ⟨(cell_spot c1).2, c1⟩, ⟨(cell_spot c2).2, c2⟩, h2⟩
set_option maxRecDepth 100000 in
theorem open_IsFlow_le {r : Reach} {b0 : Nat} {v : Value} {d : DataW H} {p : List MemPlace} (hv : Value.okWide Try.prog w r b0 24 v) (h : DataW.Trod enc Try.prog w 0 (fun _ => true) true 24 v d p)
  (hsz : ∀ n ∈ d.weights Try.prog 24, n ≤ reachBytes) : ∃ vs vl f, v = .agg #[vs, vl] ∧ IsFlow w.heap.size w vs vl f ∧ f.lots.length ≤ 2513169434843 := by
 have hC : Try.prog.cellsOf 24 = 2 := by kernel_rfl
 have k0 : Try.prog.cellsOf 3 = 1 := by kernel_rfl
 have k1 : Try.prog.cellsOf 22 = 1 := by kernel_rfl
 obtain ⟨cs, rfl, hs⟩ := okWide_struct Try.underlying24 hv
 obtain ⟨fuel, hf⟩ := h
 obtain ⟨y0, y1, n, hx, hl, h0, h1⟩ := trod_struct2 Try.underlying24 hf
 rw [hC] at hs
 obtain ⟨l⟩ := cs
 match l, hs with
 | [vs, vl], _ =>
  simp only [Value.cells, k0, k1, List.drop_zero, List.drop_succ_cons, List.take_succ_cons, List.take_zero] at h0 h1
  simp only [Prod.mk.injEq] at hx
  obtain ⟨rfl, _⟩ := hx
  obtain ⟨s, he, hy, hwf⟩ := DataW.trod_int Try.underlying3 h0
  cases he
  obtain ⟨ls, hls, hle⟩ := open_IsLots h1 (fun n hn => hsz n (by
   simp only [DataW.weights, Try.underlying24]
   exact DataW.weights_mem_each (j := 1) (t := 22) rfl rfl n hn))
  exact ⟨_, vl, ⟨s, ls⟩, rfl, ⟨rfl, I64.of_wf hwf, hls⟩, hle⟩
set_option maxRecDepth 100000 in
theorem open_IsFlow {r : Reach} {b0 : Nat} {v : Value} {d : DataW H} {p : List MemPlace} (hv : Value.okWide Try.prog w r b0 24 v) (h : DataW.Trod enc Try.prog w 0 (fun _ => true) true 24 v d p)
  (hsz : ∀ n ∈ d.weights Try.prog 24, n ≤ reachBytes) : ∃ vs vl f, v = .agg #[vs, vl] ∧ IsFlow w.heap.size w vs vl f := by
 obtain ⟨vs, vl, f, h1, h2, _⟩ := open_IsFlow_le hv h hsz
 exact ⟨vs, vl, f, h1, h2⟩
theorem open_IsInts' {v : Value} {d : DataW H} {p : List MemPlace} (hcs : v.cells.toList = [v]) (h : DataW.Trod enc Try.prog w 0 (fun _ => true) true 25 v d p)
  (hsz : ∀ n ∈ d.weights Try.prog 25, n ≤ reachBytes) : ∃ zs, IsInts w.heap.size w v zs := by
 obtain ⟨fuel, hf⟩ := h
 rw [hcs] at hf
 exact open_IsInts hf hsz
end Go.Proofs.Yteiaeaciaglmgaa
set_option linter.unusedVariables false
set_option linter.unusedSimpArgs false
namespace Go.Proofs.Yteiaeaciaglmgaa
open Go.ChangeShapes Go.WideShapes Go.ChangeAt Go.RowKit Go.Deep
variable {H : Type} {enc : TypeId × Value → H} {w : World}
theorem open_IsMat {fuel : Nat} {v : Value} {x : DataW H × List MemPlace} (h : DataW.trod enc Try.prog w 0 (fun _ => true) true fuel 26 [v] = some x)
  (hsz : ∀ n ∈ x.1.weights Try.prog 26, n ≤ reachBytes) : ∃ rows, IsMat w.heap.size w v rows := by
 have hC : Try.prog.cellsOf 25 = 1 := by kernel_rfl
 have hb : Try.prog.bytesOf 25 = 24 := by kernel_rfl
 rcases open_slice Try.underlying26 h with ⟨hv, rfl⟩ | ⟨a, len, cap, m, n, D, Pl, hv, _, hl, hm, hmm, rfl, hx⟩
 ·cases hv
  exact ⟨[], 0, 0, 0, ⟨none, rfl, Nat.le_refl _, by omega, Or.inr rfl⟩, by simp, fun j hj => by simp at hj⟩
 ·cases hv
  simp only [if_true] at hmm
  subst hmm
  have h8 := hsz ((((List.range len).map D).length + ((List.range (m - len)).map fun j => D (len + j)).length) * Try.prog.bytesOf 25) (by simp only [DataW.weights, Try.underlying26]; exact List.mem_cons_self)
  rw [hb] at h8
  simp only [List.length_map, List.length_range] at h8
  unfold reachBytes at h8
  have hel : ∀ i, i < len → ∃ r zs, (w.cells? 0 (a.add (i * 1)) 1 = some [r]) ∧ IsInts w.heap.size w r zs := by
   intro i hi
   obtain ⟨cs', h1, h2⟩ := hx i (by omega)
   rw [hC] at h1
   have hcl : cs'.length = 1 := (World.cells?_some h1).2.1
   match cs', hcl with
   | [r], _ =>
    obtain ⟨zs, hz⟩ := open_IsInts h2 (fun n hn => hsz n (by
     simp only [DataW.weights, Try.underlying26]
     exact List.mem_cons_of_mem _ (List.mem_append_left _ (weightsAll_mem (List.mem_map.2 ⟨i, List.mem_range.2 hi, rfl⟩) hn))))
    exact ⟨r, zs, h1, hz⟩
  obtain ⟨L, hL⟩ := choose_lt (α := List Int) (p := fun i zs => ∃ r, (w.cells? 0 (a.add (i * 1)) 1 = some [r]) ∧ IsInts w.heap.size w r zs) (fun i hi => by
   obtain ⟨r, zs, h1, h2⟩ := hel i hi
   exact ⟨zs, r, h1, h2⟩)
  have hn : ((List.range len).map L).length = len := by simp
  have hsp : 0 < len → a.spot = none := by
   intro h0
   obtain ⟨r, zs, h1, _⟩ := hel 0 h0
   have := (World.cells?_some h1).2.2 0 (by omega)
   simp [Addr.add] at this
   exact (cell_spot this).1
  refine ⟨(List.range len).map L, a.block, a.off, m, ⟨some a, by rw [hn], by omega, by unfold maxLen at hm; omega, ?_⟩, by omega, fun j hj => ?_⟩
  ·by_cases h0 : len = 0
   ·exact Or.inr (by omega)
   ·left
    have := hsp (by omega)
    obtain ⟨b, o, sp⟩ := a
    simp at this
    rw [this]
  ·rw [hn] at hj
   have h0 := hsp (by omega)
   obtain ⟨b, o, sp⟩ := a
   simp at h0
   subst h0
   obtain ⟨r, h1, h2⟩ := hL j hj
   have hat : rowAt ((List.range len).map L) j = L j := by
    unfold rowAt
    rw [List.getD_eq_getElem?_getD]
    simp [hj]
   have hc := (World.cells?_some h1).2.2
   rw [add_plain] at hc
   have c0 := hc 0 (by omega)
   rw [add_plain] at c0
   rw [hat]
   exact ⟨r, ⟨(cell_spot c0).2, by simpa using c0⟩, h2⟩
theorem open_IsMat' {v : Value} {d : DataW H} {p : List MemPlace} (hcs : v.cells.toList = [v]) (h : DataW.Trod enc Try.prog w 0 (fun _ => true) true 26 v d p)
  (hsz : ∀ n ∈ d.weights Try.prog 26, n ≤ reachBytes) : ∃ rows, IsMat w.heap.size w v rows := by
 obtain ⟨fuel, hf⟩ := h
 rw [hcs] at hf
 exact open_IsMat hf hsz
end Go.Proofs.Yteiaeaciaglmgaa
set_option linter.unusedVariables false
set_option linter.unusedSimpArgs false
namespace Go.Proofs.Yteiaeaciaglmgaa
open Go.ChangeShapes Go.WideShapes Go.ChangeAt Go.RowKit Go.Deep
variable {H : Type} {enc : TypeId × Value → H} {w : World}
set_option maxRecDepth 100000 in
theorem open_den : ∀ (k : Nat) {fuel : Nat} {c : List Value} {x : DataW H × List MemPlace}, SizeOf.sizeOf x.1 ≤ k → DataW.trod enc Try.prog w 0 (fun _ => true) true fuel 31 c = some x →
  (∀ n ∈ x.1.weights Try.prog 31, n ≤ reachBytes) → ∃ d, IsDen w.heap.size w c d
 | 0, fuel, c, x, hk, h, _ => by
  obtain ⟨y0, y1, y2, y3, n, rfl, _⟩ := Go.Joins.trod_struct4 Try.underlying31 h
  simp at hk
 | k + 1, fuel, c, x, hk, h, hsz => by
  have hC : Try.prog.cellsOf 31 = 4 := by kernel_rfl
  have hb : Try.prog.bytesOf 31 = 48 := by kernel_rfl
  have k0 : Try.prog.cellsOf 3 = 1 := by kernel_rfl
  have k2 : Try.prog.cellsOf 29 = 1 := by kernel_rfl
  obtain ⟨y0, y1, y2, y3, n, rfl, hl, h0, h1, h2, h3⟩ := Go.Joins.trod_struct4 Try.underlying31 h
  rw [hC] at hl
  match c, hl with
  | [v0, v1, v2, v3], _ =>
   simp only [k0, k2, List.drop_zero, List.drop_succ_cons, List.take_succ_cons, List.take_zero] at h0 h1 h2 h3
   obtain ⟨a0, e0, _, w0⟩ := DataW.trod_int Try.underlying3 h0
   obtain ⟨a1, e1, _, w1⟩ := DataW.trod_int Try.underlying3 h1
   obtain ⟨a3, e3, _, w3⟩ := DataW.trod_int Try.underlying3 h3
   cases e0
   cases e1
   cases e3
   have hw : ∀ n ∈ y2.1.weights Try.prog 29, n ≤ reachBytes := fun n hn => hsz n (by
    simp only [DataW.weights, Try.underlying31]
    exact DataW.weights_mem_each (j := 2) (t := 29) rfl rfl n hn)
   have hk2 : SizeOf.sizeOf y2.1 ≤ k := by
    simp only [DataW.agg.sizeOf_spec, List.cons.sizeOf_spec] at hk
    omega
   rcases open_slice Try.underlying29 h2 with ⟨hv, _⟩ | ⟨a, len, cap, m, n', D, Pl, hv, _, hl, hm, hmm, hx2, hx⟩
   ·cases hv
    exact ⟨.mk a0 a1 [] a3, .mk a0 a1 a3 [] (.slice none 0 0) 0 0 0 (fun _ => []) ⟨none, rfl, Nat.le_refl _, by omega, .inr rfl⟩ (by simp) (I64.of_wf w0) (I64.of_wf w1) (I64.of_wf w3) (fun j hj => by simp at hj) (fun j hj => by simp at hj)⟩
   ·cases hv
    simp only [if_true] at hmm
    subst hmm
    rw [hx2] at hw hk2
    have h8 := hw ((((List.range len).map D).length + ((List.range (m - len)).map fun j => D (len + j)).length) * Try.prog.bytesOf 31) (by simp only [DataW.weights, Try.underlying29]; exact List.mem_cons_self)
    rw [hb] at h8
    simp only [List.length_map, List.length_range] at h8
    unfold reachBytes at h8
    have hel : ∀ i, i < len → ∃ (cd : List Value × Den), (w.cells? 0 (a.add (i * 4)) 4 = some cd.1) ∧ IsDen w.heap.size w cd.1 cd.2 := by
     intro i hi
     obtain ⟨cs', h4, h5⟩ := hx i (by omega)
     rw [hC] at h4
     have hmem : D i ∈ (List.range len).map D := List.mem_map.2 ⟨i, List.mem_range.2 hi, rfl⟩
     obtain ⟨d, hd⟩ := open_den k (x := (D i, Pl i)) (by
      have := List.sizeOf_lt_of_mem hmem
      simp only [DataW.slice.sizeOf_spec] at hk2
      show SizeOf.sizeOf (D i) ≤ k
      omega) h5 (fun n hn => hw n (by
      simp only [DataW.weights, Try.underlying29]
      exact List.mem_cons_of_mem _ (List.mem_append_left _ (weightsAll_mem hmem hn))))
     exact ⟨(cs', d), h4, hd⟩
    haveI : Inhabited (List Value × Den) := ⟨([], default)⟩
    obtain ⟨F, hF⟩ := choose_lt (α := List Value × Den) (p := fun i cd => (w.cells? 0 (a.add (i * 4)) 4 = some cd.1) ∧ IsDen w.heap.size w cd.1 cd.2) (fun i hi => hel i hi)
    have hn : ((List.range len).map fun i => (F i).2).length = len := by simp
    have hsp : 0 < len → a.spot = none := by
     intro h0
     obtain ⟨h1, _⟩ := hF 0 h0
     obtain ⟨_, h3, h2⟩ := World.cells?_some h1
     have h4 := h2 0 (by omega)
     rw [List.getElem?_eq_getElem (by omega)] at h4
     simp [Addr.add] at h4
     exact (cell_spot h4).1
    refine ⟨.mk a0 a1 ((List.range len).map fun i => (F i).2) a3, .mk a0 a1 a3 _ _ a.block a.off m (fun i => (F i).1) ⟨some a, by rw [hn], by omega, by unfold maxLen at hm; omega, ?_⟩ (by rw [hn]; unfold LK; omega) (I64.of_wf w0) (I64.of_wf w1) (I64.of_wf w3) (fun j hj => ?_) (fun j hj => ?_)⟩
    ·by_cases h0 : len = 0
     ·exact Or.inr (by omega)
     ·left
      have := hsp (by omega)
      obtain ⟨b, o, sp⟩ := a
      simp at this
      rw [this]
    ·rw [hn] at hj
     have h0 := hsp (by omega)
     obtain ⟨b, o, sp⟩ := a
     simp at h0
     subst h0
     obtain ⟨h1, h2⟩ := hF j hj
     obtain ⟨_, h3, hc⟩ := World.cells?_some h1
     rw [add_plain] at hc
     have hz := hc 0 (by omega)
     rw [add_plain, List.getElem?_eq_getElem (by omega)] at hz
     refine ⟨(cell_spot hz).2, fun q u hq => ?_⟩
     have hql : q < 4 := by have := (List.getElem?_eq_some_iff.1 hq).1; omega
     have h5 := hc q hql
     rw [add_plain, hq] at h5
     exact h5
    ·rw [hn] at hj
     have hat : denAt ((List.range len).map fun i => (F i).2) j = (F j).2 := by
      unfold denAt
      rw [List.getD_eq_getElem?_getD]
      simp [hj]
     rw [hat]
     exact (hF j hj).2
set_option maxRecDepth 100000 in
theorem open_IsDen {r : Reach} {b0 : Nat} {v : Value} {d : DataW H} {p : List MemPlace} (hv : Value.okWide Try.prog w r b0 31 v) (h : DataW.Trod enc Try.prog w 0 (fun _ => true) true 31 v d p)
  (hsz : ∀ n ∈ d.weights Try.prog 31, n ≤ reachBytes) : ∃ cd e, v = .agg cd.toArray ∧ IsDen w.heap.size w cd e := by
 obtain ⟨cs, rfl, hs⟩ := okWide_struct Try.underlying31 hv
 obtain ⟨fuel, hf⟩ := h
 obtain ⟨e, he⟩ := open_den _ (Nat.le_refl _) hf hsz
 exact ⟨_, e, by cases cs; rfl, he⟩
end Go.Proofs.Yteiaeaciaglmgaa
set_option linter.unusedVariables false
set_option linter.unusedSimpArgs false
namespace Go.Proofs.Yteiaeaciaglmgaa
open Go.RowKit
theorem is_len {f : Flow} {W : List (List Int)} (h : isB f W = true) : W.length = f.lots.length := by
 unfold isB at h
 rw [Bool.and_eq_true, decide_eq_true_eq] at h
 exact h.1
/-- a way's flow can be followed -/
theorem is_map {f : Flow} {W : List (List Int)} (hc : checkE f = 0) (hB : isB f W = true) : mapE (alongF f W) = 0 := by
 have hw := ((isB_iff (checkE_ok hc).2.2.2.2).1 hB).2
 unfold mapE
 rw [if_neg (by rw [along_check hc hw]; simp), if_pos]
 exact known_knownB (fun j hj => along_known j (by rw [← along_len f W]; exact hj))
theorem is_mapR {f : Flow} {W : List (List Int)} (hc : checkE f = 0) (hB : isB f W = true) : mapR (alongF f W) = mapL (alongF f W) := by
 unfold mapR
 rw [if_pos (is_map hc hB)]
theorem right_leads {f : Flow} {a : List Int} {W : List (List Int)} (he : errX f a = 0) (hB : isB f W = true) : rightW f a W = sameB (mapL (alongF f W)) a := by
 unfold rightW leadsB
 rw [decide_eq_true he, hB, Bool.true_and, Bool.true_and]
theorem IsLots.along {w : World} {f : Flow} {v : Value} {W : List (List Int)} (hs : I64 f.senders) (h : IsLots w.heap.size w v (alongL f W f.lots.length)) : IsFlow w.heap.size w (.int .i64 f.senders) v (alongF f W) := ⟨rfl, hs, h⟩
set_option maxHeartbeats 8000000 in
set_option maxRecDepth 100000 in
/-- franking/frankinglaw29.ExplainSound -/
theorem explainSound_any (B : Nat) (w : World) (vs vl va vw : Value) (cd : List Value) (f : Flow) (zs : List Int) (W : List (List Int)) (p : Den) (hf : IsFlow B w vs vl f) (hz : IsInts B w va zs) (hw : IsMat B w vw W) (hd : IsDen B w cd p) (hB : B ≤ w.heap.size) :
  Calls Try.prog 6 #[.agg #[vs, vl], va, .agg cd.toArray, vw] w fun e w' => e = .returned (.bool true) ∧ Below w.heap.size w w' := by
 have HF := Lib.hid hf
 have HZ := Lib.hid hz
 have HMW := Lib.hid hw
 have HDP := Lib.hid hd
 obtain ⟨rfl, ⟨hs1, hs2⟩, hl'⟩ := hf
 obtain ⟨b, off, cap, ⟨a, rfl, hcap, hmax, ha⟩, hlen, hc⟩ := hl'
 obtain ⟨az, cz, rfl⟩ := hz.form
 obtain ⟨bw, ow, cw, ⟨aw, rfl, _⟩, _⟩ := id hw
 obtain ⟨ak, ck, rfl, _⟩ := hd.form
 obtain ⟨l, hl⟩ : ∃ x, p.lot = x := ⟨_, rfl⟩
 obtain ⟨i, hi⟩ : ∃ x, p.inn = x := ⟨_, rfl⟩
 obtain ⟨s, hs⟩ : ∃ x, p.sender = x := ⟨_, rfl⟩
 obtain ⟨nk, hnk⟩ : ∃ x, p.kids.length = x := ⟨_, rfl⟩
 rw [hl, hi, hs, hnk] at HDP ⊢
 obtain ⟨nz, hnz⟩ : ∃ x, zs.length = x := ⟨_, rfl⟩
 rw [hnz] at HZ ⊢
 have HNZ := Lib.hid hnz
 obtain ⟨nl, hnl⟩ : ∃ x, f.lots.length = x := ⟨_, rfl⟩
 rw [hnl] at HF ⊢
 have HNL := Lib.hid hnl
 obtain ⟨nw, hnw⟩ : ∃ x, W.length = x := ⟨_, rfl⟩
 rw [hnw] at HMW ⊢
 have HNW := Lib.hid hnw
 clear hnw
 clear hz ha hc hnz hnl hmax hlen hw hd hl hi hs hnk
 go_enter Try.func6, Try.ntmps6
 go_upto_region 1 with fail
 refine wp_name (fun w1 hw1 => ?_)
 have HXF1 : Hid (Box w1 (w.heap.size) #[.int .i64 f.senders, .slice a nl cap]) := Lib.hid (by
  rw [hw1]
  have h := Box.new w (#[.int .i64 f.senders, .slice a nl cap] : Array Value) 24
  try simp only [World.size_alloc] at h
  exact (h.alloc _))
 have HXD1 : Hid (Box w1 (w.heap.size + 1) #[.int .i64 l, .int .i64 i, .slice ak nk ck, .int .i64 s]) := Lib.hid (by
  rw [hw1]
  have h := Box.new (w.alloc (Obj.cells (#[.int .i64 f.senders, .slice a nl cap] : Array Value) 24)) (#[.int .i64 l, .int .i64 i, .slice ak nk ck, .int .i64 s] : Array Value) 31
  try simp only [World.size_alloc] at h
  exact h)
 have HB1 : Hid (Below w.heap.size w w1) := Lib.hid (by rw [hw1]; exact (((Below.refl w.heap.size w).alloc (by first | omega | (simp; omega) | simp) _).alloc (by first | omega | (simp; omega) | simp) _))
 clear hw1
 go_wp2_with fail
 refine (sane29_any w1).mono ?_
 rintro e w2 ⟨rfl, hb⟩
 have HXF2 := Lib.hid (HXF1.out.ext hb)
 have HXD2 := Lib.hid (HXD1.out.ext hb)
 have HB2 : Hid (Below w.heap.size w w2) := Lib.hid (HB1.out.trans (hb.mono HB1.out.size))
 clear hb
 have rXF := HXF2.out.2
 have rXD := HXD2.out.2
 go_wp2_with fail
 refine (few29_any B w2 _ _ _ _ _ f zs W p (HF.out.below HB2.out hB) (HZ.out.below HB2.out hB) (HMW.out.below HB2.out hB) (HDP.out.below HB2.out hB) (Nat.le_trans hB HB2.out.size)).mono ?_
 rintro e w3 ⟨⟨rr, rfl, hfew⟩, hb⟩
 have HXF3 := Lib.hid (HXF2.out.ext hb)
 have HXD3 := Lib.hid (HXD2.out.ext hb)
 have HB3 : Hid (Below w.heap.size w w3) := Lib.hid (HB2.out.trans (hb.mono HB2.out.size))
 clear hb
 clear rXF rXD
 cases rr
 ·go_wp2
  go_ret
  exact ⟨rfl, HB3.out⟩
 have HFEW := Lib.hid (hfew rfl)
 clear hfew
 have rXF := HXF3.out.2
 have rXD := HXD3.out.2
 go_wp2_with fail
 refine (erefutes_any B w3 _ _ _ _ f zs p (HF.out.below HB3.out hB) (HZ.out.below HB3.out hB) (HDP.out.below HB3.out hB) (Nat.le_trans hB HB3.out.size)).mono ?_
 rintro e w4 ⟨rfl, hb⟩
 have HXF4 := Lib.hid (HXF3.out.ext hb)
 have HXD4 := Lib.hid (HXD3.out.ext hb)
 have HB4 : Hid (Below w.heap.size w w4) := Lib.hid (HB3.out.trans (hb.mono HB3.out.size))
 clear hb
 clear rXF rXD
 by_cases hr : refutesB f zs p = true
 ·obtain ⟨e0, e1, e2⟩ := refutes_sound hr
  obtain ⟨hck, _, _⟩ := errX_ok e0
  rw [hr, e0]
  have HCK := Lib.hid hck
  have HE0 := Lib.hid e0
  have HE1 := Lib.hid e1
  have HE2 := Lib.hid e2
  clear hr e0 e1 e2 hck
  have rXF := HXF4.out.2
  go_wp2_with fail
  refine (echk_any B w4 _ _ _ _ f zs W (HF.out.below HB4.out hB) (HZ.out.below HB4.out hB) (HMW.out.below HB4.out hB) (Nat.le_trans hB HB4.out.size)).mono ?_
  rintro e w5 ⟨rfl, hb⟩
  rw [HE2.out, HE0.out]
  have HXF5 := Lib.hid (HXF4.out.ext hb)
  have HXD5 := Lib.hid (HXD4.out.ext hb)
  have HB5 : Hid (Below w.heap.size w w5) := Lib.hid (HB4.out.trans (hb.mono HB4.out.size))
  clear hb
  clear rXF
  have rXF := HXF5.out.2
  go_wp2_with fail
  refine (emake_any B w5 _ _ _ f zs (HF.out.below HB5.out hB) (HZ.out.below HB5.out hB) (Nat.le_trans hB HB5.out.size)).mono ?_
  rintro e w6 ⟨v6, rfl, hm, hb⟩
  rw [HE1.out, HE0.out]
  clear hm
  have HXF6 := Lib.hid (HXF5.out.ext hb)
  have HXD6 := Lib.hid (HXD5.out.ext hb)
  have HB6 : Hid (Below w.heap.size w w6) := Lib.hid (HB5.out.trans (hb.mono HB5.out.size))
  clear hb
  clear rXF
  have rXF := HXF6.out.2
  go_wp2_with fail
  refine (check25_any B w6 _ _ f (HF.out.below HB6.out hB) (Nat.le_trans hB HB6.out.size)).mono ?_
  rintro e w7 ⟨rfl, hb⟩
  rw [HCK.out]
  have HXF7 := Lib.hid (HXF6.out.ext hb)
  have HXD7 := Lib.hid (HXD6.out.ext hb)
  have HB7 : Hid (Below w.heap.size w w7) := Lib.hid (HB6.out.trans (hb.mono HB6.out.size))
  clear hb
  clear rXF
  have rXF := HXF7.out.2
  go_wp2_with fail
  refine (is29_any B w7 _ _ _ f W (HF.out.below HB7.out hB) (HMW.out.below HB7.out hB) (Nat.le_trans hB HB7.out.size)).mono ?_
  rintro e w8 ⟨rfl, hb⟩
  have HXF8 := Lib.hid (HXF7.out.ext hb)
  have HXD8 := Lib.hid (HXD7.out.ext hb)
  have HB8 : Hid (Below w.heap.size w w8) := Lib.hid (HB7.out.trans (hb.mono HB7.out.size))
  clear hb
  clear rXF
  by_cases hib : isB f W = true
  ·rw [hib]
   have HIS := Lib.hid hib
   have HLE := Lib.hid ((right_leads HE0.out hib).symm.trans (HE2.out W))
   clear hib
   have rXF := HXF8.out.2
   go_wp2_with fail
   refine (along29_any B w8 _ _ _ f W (HF.out.below HB8.out hB) (HMW.out.below HB8.out hB) (Nat.le_trans hB HB8.out.size) (by rw [is_len HIS.out]; exact Nat.le_refl _) (checkE_ok HCK.out).2.2.1).mono ?_
   rintro e w9 ⟨v9, rfl, hla, hb⟩
   have HLA := Lib.hid hla
   obtain ⟨bla, ola, cla, ⟨ala, rfl, _⟩, _⟩ := id hla
   obtain ⟨nla, hnla⟩ : ∃ x, (alongL f W f.lots.length).length = x := ⟨_, rfl⟩
   rw [hnla] at HLA ⊢
   clear hla hnla
   have HXF9 := Lib.hid (HXF8.out.ext hb)
   have HXD9 := Lib.hid (HXD8.out.ext hb)
   have HB9 : Hid (Below w.heap.size w w9) := Lib.hid (HB8.out.trans (hb.mono HB8.out.size))
   clear hb
   clear rXF
   go_wp2_with fail
   refine (fmap_any w9.heap.size w9 _ _ (alongF f W) (IsLots.along ⟨hs1, hs2⟩ HLA.out) (Nat.le_refl _)).mono ?_
   rintro e w10 ⟨v10, rfl, hml, hb⟩
   rw [is_map HCK.out HIS.out]
   rw [is_mapR HCK.out HIS.out] at hml
   have HML10 : Hid (IsInts w10.heap.size w10 v10 (mapL (alongF f W))) := Lib.hid hml.isInts
   clear hml
   obtain ⟨aml, cml, rfl⟩ := HML10.out.form
   have HXF10 := Lib.hid (HXF9.out.ext hb)
   have HXD10 := Lib.hid (HXD9.out.ext hb)
   have HB10 : Hid (Below w.heap.size w w10) := Lib.hid (HB9.out.trans (hb.mono HB9.out.size))
   clear hb
   go_wp2_with fail
   refine (same_any w10.heap.size w10 _ _ _ _ HML10.out ((HZ.out.below HB10.out hB).mono (Nat.le_trans hB HB10.out.size))).mono ?_
   rintro e w11 ⟨rfl, hd⟩
   have hb := hd.below w10.heap.size
   clear hd
   rw [HLE.out]
   have HXF11 := Lib.hid (HXF10.out.ext hb)
   have HXD11 := Lib.hid (HXD10.out.ext hb)
   have HB11 : Hid (Below w.heap.size w w11) := Lib.hid (HB10.out.trans (hb.mono HB10.out.size))
   have HML11 : Hid (IsInts w11.heap.size w11 (.slice aml (mapL (alongF f W)).length cml) (mapL (alongF f W))) := Lib.hid ((HML10.out.below hb (Nat.le_refl _)).mono hb.size)
   clear hb
   go_wp2
   go_ret
   exact ⟨rfl, HB11.out⟩
  ·have hib : isB f W = false := by simpa using hib
   rw [hib]
   clear hib
   go_wp2
   go_ret
   exact ⟨rfl, HB8.out⟩
 ·have hr : refutesB f zs p = false := by simpa using hr
  rw [hr]
  obtain ⟨ER, hER⟩ : ∃ x, errX f zs = x := ⟨_, rfl⟩
  rw [hER]
  clear hr hER
  by_cases he : ER = 0
  ·subst he
   go_wp2
   go_ret
   exact ⟨rfl, HB4.out⟩
  ·have he1 : (ER != 0) = true := by simpa using he
   go_wp2
   go_ret
   exact ⟨rfl, HB4.out⟩
end Go.Proofs.Yteiaeaciaglmgaa
set_option linter.unusedVariables false
set_option linter.unusedSimpArgs false
namespace Go.Proofs.Yteiaeaciaglmgaa
open Go.RowKit
/-- a way that is right: the least one is made, and it is not greater -/
theorem least_law {f : Flow} {a : List Int} {w : List (List Int)} (he : errX f a = 0) (hr : rightW f a w = true) : makeB f a = true ∧ (makeR f a).length = w.length ∧ (wayCmp (makeR f a) w w.length).getD true = true := by
 obtain ⟨hc, _, _⟩ := errX_ok he
 obtain ⟨h1, h2, h3⟩ := (right_iff he).1 hr
 have hm : makeB f a = true := (make_iff he).2 ⟨w, h1, h2, h3⟩
 have hmr := make_right he
 rw [hm] at hmr
 obtain ⟨m1, m2, _⟩ := (right_iff he).1 hmr
 refine ⟨hm, by rw [m1, h1], ?_⟩
 have hf : findM f a f.lots.length [] = some (makeR f a) := by
  unfold makeB makeO at hm
  rw [if_pos he] at hm
  unfold makeR makeO
  rw [if_pos he]
  obtain ⟨v, hv⟩ := Option.isSome_iff_exists.1 hm
  rw [hv]
  rfl
 exact wayCmp_le (checkE_ok hc).2.2.2.2 m2 h2 h1 (find_least (Nat.le_refl _) (by simp) (fun j hj => by omega) hf h1 h2 h3 (fun j hj => by simp at hj))
theorem sameB_self (l : List Int) : sameB l l = true := decide_eq_true rfl
/-- each way explains the list to which it leads -/
theorem lead_law {f : Flow} {a : List Int} {w : List (List Int)} (he : errX f a = 0) (hB : isB f w = true) : errX f (mapL (alongF f w)) = 0 ∧ rightW f (mapL (alongF f w)) w = true := by
 obtain ⟨hc, hw, _⟩ := errX_ok he
 have h0 := (checkE_ok hc).1
 have hl : ((mapL (alongF f w)).length : Int) = f.senders := by
  rw [mapL_len]
  show ((f.senders.toNat : Nat) : Int) = f.senders
  omega
 have e : errX f (mapL (alongF f w)) = 0 := by
  unfold errX
  rw [if_neg (by rw [hc]; simp), if_neg (by omega), if_neg (by rw [hl]; simp)]
 exact ⟨e, by rw [right_leads e hB]; exact sameB_self _⟩
section
variable {v w : List (List Int)} {k n : Nat} (hwc : wayCmp v w k = none) (hrc : rowCmp (rowAt v k) (rowAt w k) n = none) (hn : n < (rowAt w k).length) (hk : k < w.length) (hf : (wayCmp v w w.length).getD true = true)
include hwc hrc hn hk hf
omit hrc in
theorem cmp_at {b : Bool} (h : rowCmp (rowAt v k) (rowAt w k) (n + 1) = some b) : b = true := by
 have h1 := rowCmp_some h (show n + 1 ≤ (rowAt w k).length by omega)
 have h2 : wayCmp v w (k + 1) = some b := by simp only [wayCmp, hwc, h1]
 have h3 := wayCmp_some h2 (show k + 1 ≤ w.length by omega)
 rw [h3] at hf
 simpa using hf
theorem cmp_len : n < (rowAt v k).length := by
 refine Nat.lt_of_not_le fun h => ?_
 have := cmp_at hwc hn hk hf (b := false) (by simp only [rowCmp, hrc]; rw [if_pos h])
 cases this
theorem cmp_ne (hne : nth (rowAt v k) n ≠ nth (rowAt w k) n) : nth (rowAt v k) n < nth (rowAt w k) n := by
 have hl := cmp_len hwc hrc hn hk hf
 have := cmp_at hwc hn hk hf (b := decide (nth (rowAt v k) n < nth (rowAt w k) n)) (by simp only [rowCmp, hrc]; rw [if_neg (by omega), if_pos hne])
 exact of_decide_eq_true this
theorem cmp_eq (he : nth (rowAt v k) n = nth (rowAt w k) n) : rowCmp (rowAt v k) (rowAt w k) (n + 1) = none := by
 have hl := cmp_len hwc hrc hn hk hf
 simp only [rowCmp, hrc]
 rw [if_neg (by omega), if_neg (by simpa using he)]
end
theorem cmp_row {v w : List (List Int)} {k : Nat} (hwc : wayCmp v w k = none) (hrc : rowCmp (rowAt v k) (rowAt w k) (rowAt w k).length = none) : wayCmp v w (k + 1) = none := by simp only [wayCmp, hwc, hrc]
theorem mat_row {X : World} {a : Option Addr} {n c : Nat} {W : List (List Int)} (h : IsMat X.heap.size X (.slice a n c) W) {k : Nat} (hk : k < W.length) : ∃ b o ar cr, a = some ⟨b, o, none⟩ ∧ (rowAt W k).length ≤ 17592186043904 ∧
  (∀ w', Below X.heap.size X w' → w'.cell? ⟨b, o + k, none⟩ = some (.slice ar (rowAt W k).length cr)) ∧ ∀ i, i < (rowAt W k).length → ∃ br oo, ar = some ⟨br, oo, none⟩ ∧ ∀ w', Below X.heap.size X w' → w'.cell? ⟨br, oo + i, none⟩ = some (.int .i64 (nth (rowAt W k) i)) := by
 obtain ⟨b, o, c', ⟨a', he, h1, h2, h3⟩, h4, h5⟩ := h
 simp only [Value.slice.injEq] at he
 obtain ⟨rfl, rfl, rfl⟩ := he
 obtain ⟨r, hc, ⟨br, oo, cr, ⟨ar, rfl, g1, g2, g3⟩, g4, g5, g6⟩⟩ := h5 k hk
 have ha : a = some ⟨b, o, none⟩ := by rcases h3 with h | h; exact h; omega
 refine ⟨b, o, ar, cr, ha, g4, fun w' hb => (hc.below hb (Nat.le_refl _)).2, fun i hi => ⟨br, oo, ?_, fun w' hb => ((g6 i hi).below hb (Nat.le_refl _)).2⟩⟩
 rcases g3 with h | h
 ·exact h
 ·omega
set_option maxHeartbeats 8000000 in
set_option maxRecDepth 100000 in
/-- franking/frankinglaw29.ExplainLeads -/
theorem explainLeads_any (B : Nat) (w : World) (vs vl va vw : Value) (f : Flow) (zs : List Int) (W : List (List Int)) (hf : IsFlow B w vs vl f) (hz : IsInts B w va zs) (hw : IsMat B w vw W) (hB : B ≤ w.heap.size) :
  Calls Try.prog 7 #[.agg #[vs, vl], va, vw] w fun e w' => e = .returned (.bool true) ∧ Below w.heap.size w w' := by
 have HF := Lib.hid hf
 have HZ := Lib.hid hz
 have HMW := Lib.hid hw
 obtain ⟨rfl, ⟨hs1, hs2⟩, hl'⟩ := hf
 obtain ⟨b, off, cap, ⟨a, rfl, hcap, hmax, ha⟩, hlen, hc⟩ := hl'
 obtain ⟨az, cz, rfl⟩ := hz.form
 obtain ⟨bw, ow, cw, ⟨aw, rfl, _⟩, _⟩ := id hw
 obtain ⟨nz, hnz⟩ : ∃ x, zs.length = x := ⟨_, rfl⟩
 rw [hnz] at HZ ⊢
 have HNZ := Lib.hid hnz
 obtain ⟨nl, hnl⟩ : ∃ x, f.lots.length = x := ⟨_, rfl⟩
 rw [hnl] at HF ⊢
 have HNL := Lib.hid hnl
 obtain ⟨nw, hnw⟩ : ∃ x, W.length = x := ⟨_, rfl⟩
 rw [hnw] at HMW ⊢
 have HNW := Lib.hid hnw
 clear hnw
 clear hz ha hc hnz hnl hmax hlen hw
 go_enter Try.func7, Try.ntmps7
 go_upto_region 1 with fail
 refine wp_name (fun w1 hw1 => ?_)
 have HXF1 : Hid (Box w1 (w.heap.size) #[.int .i64 f.senders, .slice a nl cap]) := Lib.hid (by
  rw [hw1]
  have h := Box.new w (#[.int .i64 f.senders, .slice a nl cap] : Array Value) 24
  try simp only [World.size_alloc] at h
  exact h)
 have HB1 : Hid (Below w.heap.size w w1) := Lib.hid (by rw [hw1]; exact ((Below.refl w.heap.size w).alloc (by first | omega | (simp; omega) | simp) _))
 clear hw1
 go_wp2_with fail
 refine (sane29_any w1).mono ?_
 rintro e w2 ⟨rfl, hb⟩
 have HXF2 := Lib.hid (HXF1.out.ext hb)
 have HB2 : Hid (Below w.heap.size w w2) := Lib.hid (HB1.out.trans (hb.mono HB1.out.size))
 clear hb
 have rXF := HXF2.out.2
 go_wp2_with fail
 refine (few29_any B w2 _ _ _ _ _ f zs W noD (HF.out.below HB2.out hB) (HZ.out.below HB2.out hB) (HMW.out.below HB2.out hB) (DenS.zero _ _) (Nat.le_trans hB HB2.out.size)).mono ?_
 rintro e w3 ⟨⟨rr, rfl, hfew⟩, hb⟩
 have HXF3 := Lib.hid (HXF2.out.ext hb)
 have HB3 : Hid (Below w.heap.size w w3) := Lib.hid (HB2.out.trans (hb.mono HB2.out.size))
 clear hb
 clear rXF
 cases rr
 ·go_wp2
  go_ret
  exact ⟨rfl, HB3.out⟩
 have HFEW := Lib.hid (hfew rfl)
 clear hfew
 have rXF := HXF3.out.2
 go_wp2_with fail
 refine (error29_any B w3 _ _ _ f zs (HF.out.below HB3.out hB) (HZ.out.below HB3.out hB) (Nat.le_trans hB HB3.out.size)).mono ?_
 rintro e w4 ⟨rfl, hb⟩
 have HXF4 := Lib.hid (HXF3.out.ext hb)
 have HB4 : Hid (Below w.heap.size w w4) := Lib.hid (HB3.out.trans (hb.mono HB3.out.size))
 clear hb
 clear rXF
 by_cases he : errX f zs = 0
 ·rw [he]
  have HE0 := Lib.hid he
  have HCK := Lib.hid (errX_ok he).1
  clear he
  have rXF := HXF4.out.2
  go_wp2_with fail
  refine (is29_any B w4 _ _ _ f W (HF.out.below HB4.out hB) (HMW.out.below HB4.out hB) (Nat.le_trans hB HB4.out.size)).mono ?_
  rintro e w5 ⟨rfl, hb⟩
  have HXF5 := Lib.hid (HXF4.out.ext hb)
  have HB5 : Hid (Below w.heap.size w w5) := Lib.hid (HB4.out.trans (hb.mono HB4.out.size))
  clear hb
  clear rXF
  by_cases hib : isB f W = true
  ·rw [hib]
   have HIS := Lib.hid hib
   have HLW := Lib.hid (lead_law HE0.out hib)
   have HRL0 := Lib.hid (right_leads HE0.out hib)
   have HLL := Lib.hid (least_law HLW.out.1 HLW.out.2)
   clear hib
   have rXF := HXF5.out.2
   go_wp2_with fail
   refine (along29_any B w5 _ _ _ f W (HF.out.below HB5.out hB) (HMW.out.below HB5.out hB) (Nat.le_trans hB HB5.out.size) (by rw [is_len HIS.out]; exact Nat.le_refl _) (checkE_ok HCK.out).2.2.1).mono ?_
   rintro e w6 ⟨v6, rfl, hla, hb⟩
   have HLA := Lib.hid hla
   obtain ⟨bla, ola, cla, ⟨ala, rfl, _⟩, _⟩ := id hla
   obtain ⟨nla, hnla⟩ : ∃ x, (alongL f W f.lots.length).length = x := ⟨_, rfl⟩
   rw [hnla] at HLA ⊢
   clear hla hnla
   have HXF6 := Lib.hid (HXF5.out.ext hb)
   have HB6 : Hid (Below w.heap.size w w6) := Lib.hid (HB5.out.trans (hb.mono HB5.out.size))
   clear hb
   clear rXF
   go_wp2_with fail
   refine (fmap_any w6.heap.size w6 _ _ (alongF f W) (IsLots.along ⟨hs1, hs2⟩ HLA.out) (Nat.le_refl _)).mono ?_
   rintro e w7 ⟨v7, rfl, hml, hb⟩
   rw [is_map HCK.out HIS.out]
   rw [is_mapR HCK.out HIS.out] at hml
   have HML7 : Hid (IsInts w7.heap.size w7 v7 (mapL (alongF f W))) := Lib.hid hml.isInts
   clear hml
   obtain ⟨aml, cml, rfl⟩ := HML7.out.form
   have HXF7 := Lib.hid (HXF6.out.ext hb)
   have HB7 : Hid (Below w.heap.size w w7) := Lib.hid (HB6.out.trans (hb.mono HB6.out.size))
   clear hb
   have rXF := HXF7.out.2
   go_wp2_with fail
   refine (echk_any B w7 _ _ _ _ f zs W (HF.out.below HB7.out hB) (HZ.out.below HB7.out hB) (HMW.out.below HB7.out hB) (Nat.le_trans hB HB7.out.size)).mono ?_
   rintro e w8 ⟨rfl, hb⟩
   rw [HRL0.out, HE0.out]
   have HXF8 := Lib.hid (HXF7.out.ext hb)
   have HB8 : Hid (Below w.heap.size w w8) := Lib.hid (HB7.out.trans (hb.mono HB7.out.size))
   have HML8 : Hid (IsInts w8.heap.size w8 (.slice aml (mapL (alongF f W)).length cml) (mapL (alongF f W))) := Lib.hid ((HML7.out.below hb (Nat.le_refl _)).mono hb.size)
   clear hb
   clear rXF
   go_wp2_with fail
   refine (same_any w8.heap.size w8 _ _ _ _ HML8.out ((HZ.out.below HB8.out hB).mono (Nat.le_trans hB HB8.out.size))).mono ?_
   rintro e w9 ⟨rfl, hd⟩
   have hb := hd.below w8.heap.size
   clear hd
   have HXF9 := Lib.hid (HXF8.out.ext hb)
   have HB9 : Hid (Below w.heap.size w w9) := Lib.hid (HB8.out.trans (hb.mono HB8.out.size))
   have HML9 : Hid (IsInts w9.heap.size w9 (.slice aml (mapL (alongF f W)).length cml) (mapL (alongF f W))) := Lib.hid ((HML8.out.below hb (Nat.le_refl _)).mono hb.size)
   clear hb
   obtain ⟨SB, hSB⟩ : ∃ x, sameB (mapL (alongF f W)) zs = x := ⟨_, rfl⟩
   rw [hSB]
   have hbb : (SB != SB) = false := by simp
   clear hSB
   have rXF := HXF9.out.2
   go_wp2_with fail
   refine (emake_any w9.heap.size w9 _ _ _ f (mapL (alongF f W)) ((HF.out.below HB9.out hB).mono (Nat.le_trans hB HB9.out.size)) HML9.out (Nat.le_refl _)).mono ?_
   rintro e w10 ⟨v1, rfl, hm, hb⟩
   rw [HLL.out.1, HLW.out.1]
   obtain ⟨bm1, om1, cm1, ⟨am1, rfl, _⟩, _⟩ := id hm
   have HM110 := Lib.hid hm
   clear hm
   have HXF10 := Lib.hid (HXF9.out.ext hb)
   have HB10 : Hid (Below w.heap.size w w10) := Lib.hid (HB9.out.trans (hb.mono HB9.out.size))
   have HML10 : Hid (IsInts w10.heap.size w10 (.slice aml (mapL (alongF f W)).length cml) (mapL (alongF f W))) := Lib.hid ((HML9.out.below hb (Nat.le_refl _)).mono hb.size)
   clear hb
   clear rXF
   have rXF := HXF10.out.2
   go_wp2_with fail
   refine (echk_any w10.heap.size w10 _ _ _ _ f (mapL (alongF f W)) W ((HF.out.below HB10.out hB).mono (Nat.le_trans hB HB10.out.size)) HML10.out ((HMW.out.below HB10.out hB).mono (Nat.le_trans hB HB10.out.size)) (Nat.le_refl _)).mono ?_
   rintro e w11 ⟨rfl, hb⟩
   rw [HLW.out.2, HLW.out.1]
   have HXF11 := Lib.hid (HXF10.out.ext hb)
   have HM111 : Hid (IsMat w11.heap.size w11 (.slice am1 (makeR f (mapL (alongF f W))).length cm1) (makeR f (mapL (alongF f W)))) := Lib.hid ((HM110.out.below hb (Nat.le_refl _)).mono hb.size)
   have HB11 : Hid (Below w.heap.size w w11) := Lib.hid (HB10.out.trans (hb.mono HB10.out.size))
   have HML11 : Hid (IsInts w11.heap.size w11 (.slice aml (mapL (alongF f W)).length cml) (mapL (alongF f W))) := Lib.hid ((HML10.out.below hb (Nat.le_refl _)).mono hb.size)
   clear hb
   clear rXF
   obtain ⟨LV, hLV⟩ : ∃ x, makeR f (mapL (alongF f W)) = x := ⟨_, rfl⟩
   have hll := HLL.out
   rw [hLV] at HM111 hll ⊢
   have HFIN := Lib.hid hll.2.2
   have HNL := Lib.hid hll.2.1
   rw [hll.2.1, HNW.out] at HM111 ⊢
   clear hLV hll
   have hqq : ((nw : Int) != (nw : Int)) = false := by simp
   have HMX : Hid (IsMat w11.heap.size w11 (.slice aw nw cw) W) := Lib.hid ((HMW.out.below HB11.out hB).mono (Nat.le_trans hB HB11.out.size))
   have h2000 : nw ≤ 2000 := by rw [← HNW.out, is_len HIS.out]; exact (checkE_ok HCK.out).2.2.1
   have hz6 := HXF11.out.2
   have HRW := Lib.hid (fun (k : Nat) (hk : k < W.length) => mat_row HMX.out hk)
   have HRL := Lib.hid (fun (k : Nat) (hk : k < LV.length) => mat_row HM111.out hk)
   go_wp2
   go_loopw [102] (fun k' wr => ∃ k : Nat, k ≤ nw ∧ k' = .int .i64 k ∧ Below w11.heap.size w11 wr ∧ wayCmp LV W k = none) (fun k' _ => nw - (intOf k').toNat)
   case atStart => exact ⟨0, by omega, rfl, Below.refl _ _, rfl⟩
   case round =>
    obtain ⟨k, hk, rfl, hbr, hwc⟩ := hrel
    have HBR := Lib.hid hbr
    have HWC := Lib.hid hwc
    obtain ⟨wA, hwA⟩ : ∃ x, wr = x := ⟨_, rfl⟩
    rw [hwA] at HBR ⊢
    clear hbr hwc hwA
    by_cases hlt : k < nw
    ·have HKW : Hid (k < W.length) := Lib.hid (by rw [HNW.out]; exact hlt)
     obtain ⟨bW, oW, arW, crW, hea, hrl, hcW, hiW⟩ := HRW.out k HKW.out
     obtain ⟨bL, oL, arL, crL, heb, _, hcL, hiL⟩ := HRL.out k (by rw [HNL.out]; exact HKW.out)
     subst hea heb
     have HCW := Lib.hid hcW
     have HIW := Lib.hid hiW
     have HCL := Lib.hid hcL
     have HIL := Lib.hid hiL
     have HRC := Lib.hid (fun (n : Nat) (h : rowCmp (rowAt LV k) (rowAt W k) n = none) (hn : n < (rowAt W k).length) => cmp_len HWC.out h hn HKW.out HFIN.out)
     have HRN := Lib.hid (fun (n : Nat) (h : rowCmp (rowAt LV k) (rowAt W k) n = none) (hn : n < (rowAt W k).length) => cmp_ne HWC.out h hn HKW.out HFIN.out)
     have HRE := Lib.hid (fun (n : Nat) (h : rowCmp (rowAt LV k) (rowAt W k) n = none) (hn : n < (rowAt W k).length) => cmp_eq HWC.out h hn HKW.out HFIN.out)
     have HRR := Lib.hid (cmp_row HWC.out)
     obtain ⟨nr, hnr⟩ : ∃ x, (rowAt W k).length = x := ⟨_, rfl⟩
     obtain ⟨np, hnp⟩ : ∃ x, (rowAt LV k).length = x := ⟨_, rfl⟩
     have HNP := Lib.hid hnp
     rw [hnr] at hrl HCW HIW HRC HRN HRE HRR
     rw [hnp] at HCL HIL HRC
     clear hcW hiW hcL hiL hnr hnp
     have cW := HCW.out wA HBR.out
     go_wp2
     clear cW
     go_loopw [110] (fun n' wr => ∃ n : Nat, n ≤ nr ∧ n' = .int .i64 n ∧ Below w11.heap.size w11 wr ∧ rowCmp (rowAt LV k) (rowAt W k) n = none) (fun n' _ => nr - (intOf n').toNat)
     case atStart => exact ⟨0, by omega, rfl, HBR.out, rfl⟩
     case round =>
      obtain ⟨n, hn, rfl, hbr, hrc⟩ := hrel
      have HBI := Lib.hid hbr
      have HRI := Lib.hid hrc
      obtain ⟨wB, hwB⟩ : ∃ x, wr = x := ⟨_, rfl⟩
      rw [hwB] at HBI ⊢
      clear hbr hrc hwB
      by_cases hln : n < nr
      ·have hpl := HRC.out n HRI.out hln
       obtain ⟨b1, o1, e1, hx1⟩ := HIW.out n hln
       obtain ⟨b2, o2, e2, hx2⟩ := HIL.out n hpl
       subst e1 e2
       have c1 := HCW.out wB HBI.out
       have c2 := HCL.out wB HBI.out
       have c3 := hx1 wB HBI.out
       have c4 := hx2 wB HBI.out
       have HNE := Lib.hid (HRN.out n HRI.out hln)
       have HEQ := Lib.hid (HRE.out n HRI.out hln)
       obtain ⟨x, hx⟩ : ∃ x, nth (rowAt W k) n = x := ⟨_, rfl⟩
       obtain ⟨y, hy⟩ : ∃ x, nth (rowAt LV k) n = x := ⟨_, rfl⟩
       rw [hx] at c3 HNE HEQ
       rw [hy] at c4 HNE HEQ
       clear hx1 hx2 hx hy
       have hge : decide ((np : Int) ≤ (n : Int)) = false := decide_eq_false (by omega)
       by_cases hxy : y = x
       ·subst hxy
        have hq : (y != y) = false := by simp
        go_wp2
        go_quiet (fail)
        go_wp2
        go_roundw
        case rel => exact ⟨n + 1, by omega, by go_num, below_drewN HBI.out _, HEQ.out (by trivial)⟩
        case measure => simp [intOf]; omega
       ·have hq : (y != x) = true := by simpa using hxy
        have hl : decide (y < x) = true := decide_eq_true (HNE.out hxy)
        go_wp2
        go_quiet (fail)
        go_wp2
        go_quiet (fail)
        go_wp2
        go_ret
        exact ⟨rfl, HB11.out.trans ((below_drewN (below_drewN HBI.out _) _).mono HB11.out.size)⟩
      ·obtain rfl : nr = n := by omega
       go_wp2
       go_roundw
       case rel => exact ⟨k + 1, by omega, by go_num, HBI.out, HRR.out HRI.out⟩
       case measure => simp [intOf]; omega
    ·obtain rfl : nw = k := by omega
     go_wp2
     go_ret
     exact ⟨rfl, HB11.out.trans (HBR.out.mono HB11.out.size)⟩
  ·have hib : isB f W = false := by simpa using hib
   rw [hib]
   clear hib
   go_wp2
   go_ret
   exact ⟨rfl, HB5.out⟩
 ·obtain ⟨ER, hER⟩ : ∃ x, errX f zs = x := ⟨_, rfl⟩
  rw [hER] at he ⊢
  have he1 : (ER != 0) = true := by simpa using he
  clear hER
  go_wp2
  go_ret
  exact ⟨rfl, HB4.out⟩
end Go.Proofs.Yteiaeaciaglmgaa
set_option linter.unusedVariables false
set_option linter.unusedSimpArgs false
namespace Go.Proofs.Yteiaeaciaglmgaa
open Go.RowKit
theorem upd_ne {L : Nat → Bool} {i j : Nat} (h : j ≠ i) : upd L i j = L j := by unfold upd; simp [h]
section
variable {w1 : World} {ls : List Lot} {v1 : Value} {L : Nat → Bool} {x2 x5 x6 x7 : Value} {w : World}
variable (h : AC w1 ls v1 L x2 x5 x6 x7 w)
include h
theorem AC.pass {i : Nat} (hi : i = 0 ∨ i = 1 ∨ i = 3 ∨ i = 4) : AC w1 ls v1 (upd L i) x2 x5 x6 x7 w := by
 have e : ∀ j, j = 2 ∨ j = 5 ∨ j = 6 ∨ j = 7 ∨ j = 8 → upd L i j = L j := fun j hj => upd_ne (by omega)
 exact {
  hb := h.hb, h2 := (by rw [e 2 (by omega), e 5 (by omega)]; exact h.h2), h5 := (by rw [e 5 (by omega)]; exact h.h5), h6 := (by rw [e 6 (by omega)]; exact h.h6), h7 := (by rw [e 7 (by omega), e 8 (by omega), e 2 (by omega), e 5 (by omega)]; exact h.h7),
  h8 := (by rw [e 8 (by omega)]; exact h.h8), l2 := (by rw [e 2 (by omega)]; exact h.l2), l5 := (by rw [e 5 (by omega)]; exact h.l5), c6 := (by rw [e 6 (by omega), e 5 (by omega)]; exact h.c6), c8 := (by rw [e 8 (by omega), e 7 (by omega), e 6 (by omega), e 5 (by omega), e 2 (by omega)]; exact h.c8) }
theorem AC.s5 (hi : L 5 = false) (h2 : L 2 = true) {v' : Value} {w' : World} (ho : OwnLots w1.heap.size w' v' ls) (hg : w.grownBy w' x2.ownBlock) (hat : v'.ownBlock = x2.ownBlock ∨ v'.ownBlock = some w.heap.size) :
  AC w1 ls v1 (upd L 5) x2 v' x6 x7 w' := by
 have hno := h.no8 hi (by simp)
 have hlo := (h.h2 h2 hi).ltX
 have hn6 : L 6 = false := by
  cases e : L 6 with
  | false => rfl
  | true => have := h.c6 e; rw [hi] at this; cases this
 exact {
  hb := h.hb.grown hg h.hb.size (fun k hk => (hlo k hk).1), h2 := (fun _ e => by cases e), h5 := (fun _ => ho), h6 := (fun e => by rw [show upd L 5 6 = L 6 from rfl, hn6] at e; cases e),
  h7 := (fun a b => by
   obtain ⟨p, e1, e2, e3, e4, e5⟩ := h.h7 a b
   refine ⟨p, e1, e2, e3.grown hg (fun e => e4 h2 e.symm), e4, fun _ => ?_⟩
   rcases hat with e | e
   ·rw [e]; exact e4 h2
   ·rw [e]; intro e'; have := e3.lt; simp at e'; omega), h8 := (fun e => by rw [show upd L 5 8 = L 8 from rfl, hno] at e; cases e),
  l2 := (fun e k hk => by have := h.l2 e k hk; have := hg.size; omega), l5 := (fun _ k hk => (ho.ltX k hk).2), c6 := (fun _ => rfl), c8 := (fun e => by rw [show upd L 5 8 = L 8 from rfl, hno] at e; cases e) }
theorem AC.s6 (hi : L 6 = false) (h5 : L 5 = true) : AC w1 ls v1 (upd L 6) x2 x5 (.agg #[v1, x5]) x7 w := by
 have hno := h.no8 hi (by simp)
 exact {
  hb := h.hb, h2 := h.h2, h5 := h.h5, h6 := (fun _ => rfl), h7 := h.h7, h8 := (fun e => by rw [show upd L 6 8 = L 8 from rfl, hno] at e; cases e), l2 := h.l2, l5 := h.l5, c6 := (fun _ => h5),
  c8 := (fun e => by rw [show upd L 6 8 = L 8 from rfl, hno] at e; cases e) }
theorem AC.s7 (hi : L 7 = false) (t : TypeId) : AC w1 ls v1 (upd L 7) x2 x5 x6 (.pointer (some ⟨w.heap.size, 0, none⟩)) (w.alloc (.cells #[.int .i64 0, .slice none 0 0] t)) := by
 have hno := h.no8 hi (by simp)
 have h' := h.more hno (.cells #[.int .i64 0, .slice none 0 0] t)
 exact {
  hb := h'.hb, h2 := h'.h2, h5 := h'.h5, h6 := h'.h6,
  h7 := (fun _ _ => ⟨w.heap.size, rfl, h.hb.size, CellsN.new w _ t, (fun q e => by have := h.l2 q _ e; omega), (fun q e => by have := h.l5 q _ e; omega)⟩), h8 := (fun e => by rw [show upd L 7 8 = L 8 from rfl, hno] at e; cases e),
  l2 := h'.l2, l5 := h'.l5, c6 := h'.c6, c8 := (fun e => by rw [show upd L 7 8 = L 8 from rfl, hno] at e; cases e) }
theorem AC.s8 (hi : L 8 = false) (h7 : L 7 = true) (h6 : L 6 = true) (h5 : L 5 = true) (h2 : L 2 = true) {p n c : Nat} {a : Option Addr} (hp : x7 = .pointer (some ⟨p, 0, none⟩)) (he : x5 = .slice a n c) :
  AC w1 ls v1 (upd L 8) x2 x5 x6 x7 ((w.setCell ⟨p, 0, none⟩ v1).setCell ⟨p, 1, none⟩ (.slice a n c)) := by
 obtain ⟨p', e1, e2, e3, e4, e5⟩ := h.h7 h7 hi
 rw [hp] at e1
 obtain rfl : p = p' := by simpa using e1
 have hz := h.hb.size
 have o1 := (h.h5 h5).setX hz e2 (e5 h5) 0 v1
 have o2 := o1.setX (by simpa [World.setCell] using hz) e2 (e5 h5) 1 (.slice a n c)
 have b1 := (h.hb.setCell (p := ⟨p, 0, none⟩) e2 v1).setCell (p := ⟨p, 1, none⟩) e2 (.slice a n c)
 have k1 := (e3.set 0 v1).set 1 (.slice a n c)
 exact {
  hb := b1, h2 := (fun _ e => by rw [show upd L 8 5 = L 5 from rfl, h5] at e; cases e), h5 := (fun _ => o2), h6 := h.h6, h7 := (fun _ e => by cases e),
  h8 := (fun _ => ⟨p, n, c, a, hp, e2, (by simpa using k1), (by rw [← he]; rw [← he] at o2; exact o2), b1⟩),
  l2 := (fun e k hk => by have := h.l2 e k hk; simpa [World.setCell] using this), l5 := (fun e k hk => by have := h.l5 e k hk; simpa [World.setCell] using this), c6 := h.c6, c8 := (fun _ => ⟨h7, h6, h5, h2⟩) }
end
theorem flat_set1 {l : List V3} {k : Nat} (hk : k < l.length) (u : Value) : (flat l).set (k * 3 + 1) u = flat (l.set k ⟨(v3At l k).i, u, (v3At l k).p⟩) := by
 induction l generalizing k with
 | nil => simp at hk
 | cons a l ih =>
  cases k with
  | zero => rfl
  | succ k =>
   have h := ih (k := k) (by simpa using hk)
   simp only [List.set_cons_succ, flat]
   rw [show (k + 1) * 3 = k * 3 + 3 by omega]
   simp only [List.set_cons_succ]
   rw [h]
   rfl
theorem flat_set2 {l : List V3} {k : Nat} (hk : k < l.length) (u : Value) : (flat l).set (k * 3 + 2) u = flat (l.set k ⟨(v3At l k).i, (v3At l k).k, u⟩) := by
 induction l generalizing k with
 | nil => simp at hk
 | cons a l ih =>
  cases k with
  | zero => rfl
  | succ k =>
   have h := ih (k := k) (by simpa using hk)
   simp only [List.set_cons_succ, flat]
   rw [show (k + 1) * 3 = k * 3 + 3 by omega]
   simp only [List.set_cons_succ]
   rw [h]
   rfl
theorem OwnLots.known {C : Nat} {w : World} {g n cap k : Nat} {ls : List Lot} (h : OwnLots C w (.slice (some ⟨g, 0, none⟩) n cap) ls) (hn : n = ls.length) (hk : k < ls.length) (b : Bool) :
  OwnLots C (w.setCell ⟨g, k * 3 + 1, none⟩ (.bool b)) (.slice (some ⟨g, 0, none⟩) n cap) (ls.set k ⟨(lotAt ls k).ins, b, (lotAt ls k).perm⟩) := by
 subst hn
 obtain ⟨vals, h1, h2, h3, h4⟩ := h
 have hg : C ≤ g := (h1.lt g rfl).1
 have s2 := (h1.stored (k * 3 + 1) (.bool b)).1
 rw [flat_set1 (by omega)] at s2
 have hb : Below C w (w.setCell ⟨g, k * 3 + 1, none⟩ (.bool b)) := (Below.refl C w).setCell (p := ⟨g, k * 3 + 1, none⟩) hg _
 refine ⟨_, by rw [List.length_set]; exact s2, by simp [h2], by simpa using h3, fun j hj => ?_⟩
 rw [List.length_set] at hj
 rw [v3At_set (by omega), lotAt_setL hk]
 by_cases e : j = k
 ·rw [if_pos e, if_pos e]
  have h5 := h4 k hk
  exact ⟨h5.1.below hb (Nat.le_refl _), rfl, h5.2.2.below hb (Nat.le_refl _)⟩
 ·rw [if_neg e, if_neg e]; exact (h4 j hj).below hb (Nat.le_refl _)
theorem OwnLots.noperm {C : Nat} {w : World} {g n cap k : Nat} {ls : List Lot} (h : OwnLots C w (.slice (some ⟨g, 0, none⟩) n cap) ls) (hn : n = ls.length) (hk : k < ls.length) :
  OwnLots C (w.setCell ⟨g, k * 3 + 2, none⟩ (.slice none 0 0)) (.slice (some ⟨g, 0, none⟩) n cap) (ls.set k ⟨(lotAt ls k).ins, (lotAt ls k).known, []⟩) := by
 subst hn
 obtain ⟨vals, h1, h2, h3, h4⟩ := h
 have hg : C ≤ g := (h1.lt g rfl).1
 have s2 := (h1.stored (k * 3 + 2) (.slice none 0 0)).1
 rw [flat_set2 (by omega)] at s2
 have hb : Below C w (w.setCell ⟨g, k * 3 + 2, none⟩ (.slice none 0 0)) := (Below.refl C w).setCell (p := ⟨g, k * 3 + 2, none⟩) hg _
 refine ⟨_, by rw [List.length_set]; exact s2, by simp [h2], by simpa using h3, fun j hj => ?_⟩
 rw [List.length_set] at hj
 rw [v3At_set (by omega), lotAt_setL hk]
 by_cases e : j = k
 ·rw [if_pos e, if_pos e]
  have h5 := h4 k hk
  exact ⟨h5.1.below hb (Nat.le_refl _), h5.2.1, noInts⟩
 ·rw [if_neg e, if_neg e]; exact (h4 j hj).below hb (Nat.le_refl _)
/-- a flow with one lot made unknown -/
def unkAt (f : Flow) (k : Nat) : Flow := ⟨f.senders, f.lots.set k ⟨(lotAt f.lots k).ins, false, []⟩⟩
theorem unkAt_lot {f : Flow} {k j : Nat} (hk : k < f.lots.length) : lotAt (unkAt f k).lots j = if j = k then ⟨(lotAt f.lots k).ins, false, []⟩ else lotAt f.lots j := lotAt_setL hk _
theorem unkAt_along {f : Flow} {k : Nat} (hk : k < f.lots.length) (v : List (List Int)) : ∀ m, alongL (unkAt f k) v m = alongL f v m
 | 0 => rfl
 | m + 1 => by
  have e : (lotAt (unkAt f k).lots m).ins = (lotAt f.lots m).ins := by
   rw [unkAt_lot hk]
   by_cases h : m = k
   ·rw [if_pos h, h]
   ·rw [if_neg h]
  simp only [alongL, unkAt_along hk v m, e]
/-- what is explained is explained by the same way if a lot becomes unknown -/
theorem unk_right {f : Flow} {k : Nat} {a : List Int} (hk : k < f.lots.length) (he : errX f a = 0) (he2 : errX (unkAt f k) a = 0) (hm : makeB f a = true) : rightW (unkAt f k) a (makeR f a) = true := by
 obtain ⟨hc, _, _⟩ := errX_ok he
 have hlo := (checkE_ok hc).2.2.2.2
 have hr := make_right he
 rw [hm] at hr
 obtain ⟨h1, h2, h3⟩ := (right_iff he).1 hr
 have hl : (unkAt f k).lots.length = f.lots.length := List.length_set
 refine (right_iff he2).2 ⟨by rw [h1, hl], fun j hj => ?_, ?_⟩
 ·rw [hl] at hj
  have h4 := h2 j hj
  rw [unkAt_lot hk]
  by_cases e : j = k
  ·subst e
   rw [if_pos rfl]
   unfold permsOf
   rw [if_neg (by simp), mem_permsL]
   exact permsOf_perm (lotsB_lot hlo hj) h4
  ·rw [if_neg e]; exact h4
 ·unfold leadsB at h3 ⊢
  have e : alongF (unkAt f k) (makeR f a) = alongF f (makeR f a) := by
   unfold alongF
   rw [unkAt_along hk, hl]
   rfl
  rw [e]
  exact h3
end Go.Proofs.Yteiaeaciaglmgaa
set_option linter.unusedVariables false
set_option linter.unusedSimpArgs false
namespace Go.Proofs.Yteiaeaciaglmgaa
open Go.RowKit
set_option maxHeartbeats 8000000 in
set_option maxRecDepth 100000 in
/-- franking/frankinglaw29.ExplainUnknown -/
theorem explainUnknown_any (B : Nat) (w : World) (vs vl va : Value) (f : Flow) (zs : List Int) (hf : IsFlow B w vs vl f) (hz : IsInts B w va zs) (hB : B ≤ w.heap.size) (an : Nat) (han : an ≤ 255) :
  Calls Try.prog 8 #[.agg #[vs, vl], va, .int .u8 (an : Int)] w fun e w' => e = .returned (.bool true) ∧ Below w.heap.size w w' := by
 have HF := Lib.hid hf
 have HZ := Lib.hid hz
 obtain ⟨rfl, ⟨hs1, hs2⟩, hl'⟩ := hf
 obtain ⟨b, off, cap, ⟨a, rfl, hcap, hmax, ha⟩, hlen, hc⟩ := hl'
 obtain ⟨az, cz, rfl⟩ := hz.form
 obtain ⟨nz, hnz⟩ : ∃ x, zs.length = x := ⟨_, rfl⟩
 rw [hnz] at HZ ⊢
 have HNZ := Lib.hid hnz
 have HA0 := Lib.hid ha
 have HC0 := Lib.hid hc
 clear hz ha hc hnz hmax hlen
 go_enter Try.func8, Try.ntmps8
 go_upto_region 1 with fail
 refine wp_name (fun w1 hw1 => ?_)
 have HXF1 : Hid (Box w1 (w.heap.size) #[.int .i64 f.senders, .slice a f.lots.length cap]) := Lib.hid (by
  rw [hw1]
  have h := Box.new w (#[.int .i64 f.senders, .slice a f.lots.length cap] : Array Value) 24
  try simp only [World.size_alloc] at h
  exact h)
 have HB1 : Hid (Below w.heap.size w w1) := Lib.hid (by rw [hw1]; exact ((Below.refl w.heap.size w).alloc (by first | omega | (simp; omega) | simp) _))
 clear hw1
 go_wp2_with fail
 refine (sane29_any w1).mono ?_
 rintro e w2 ⟨rfl, hb⟩
 have HXF2 := Lib.hid (HXF1.out.ext hb)
 have HB2 : Hid (Below w.heap.size w w2) := Lib.hid (HB1.out.trans (hb.mono HB1.out.size))
 clear hb
 have rXF := HXF2.out.2
 go_wp2_with fail
 refine (few29_any B w2 _ _ _ _ _ f zs [] noD (HF.out.below HB2.out hB) (HZ.out.below HB2.out hB) noMat (DenS.zero _ _) (Nat.le_trans hB HB2.out.size)).mono ?_
 rintro e w3 ⟨⟨rr, rfl, hfew⟩, hb⟩
 have HXF3 := Lib.hid (HXF2.out.ext hb)
 have HB3 : Hid (Below w.heap.size w w3) := Lib.hid (HB2.out.trans (hb.mono HB2.out.size))
 clear hb
 clear rXF
 cases rr
 ·go_wp2
  go_ret
  exact ⟨rfl, HB3.out⟩
 have HFEW := Lib.hid (hfew rfl)
 clear hfew
 have rXF := HXF3.out.2
 go_wp2_with fail
 refine (error29_any B w3 _ _ _ f zs (HF.out.below HB3.out hB) (HZ.out.below HB3.out hB) (Nat.le_trans hB HB3.out.size)).mono ?_
 rintro e w4 ⟨rfl, hb⟩
 have HXF4 := Lib.hid (HXF3.out.ext hb)
 have HB4 : Hid (Below w.heap.size w w4) := Lib.hid (HB3.out.trans (hb.mono HB3.out.size))
 clear hb
 clear rXF
 by_cases he : errX f zs = 0
 ·rw [he]
  have HE0 := Lib.hid he
  have HCK := Lib.hid (errX_ok he).1
  have hl2 : f.lots.length ≤ 2000 := (checkE_ok (errX_ok he).1).2.2.1
  clear he
  by_cases hl0 : f.lots.length = 0
  ·have hl0' : ((f.lots.length : Int) == 0) = true := beq_iff_eq.2 (by omega)
   clear hl0
   have rXF := HXF4.out.2
   go_wp2
   go_ret
   exact ⟨rfl, HB4.out⟩
  ·have hl0' : ((f.lots.length : Int) == 0) = false := beq_eq_false_iff_ne.2 (by omega)
   obtain rfl : a = some ⟨b, off, none⟩ := by rcases HA0.out with h | h; exact h; omega
   have rXF := HXF4.out.2
   go_upto_region 5 with fail
   clear rXF
   have hm1 : ((an : Int).tmod (f.lots.length : Int)) = ((an % f.lots.length : Nat) : Int) := by rw [Int.ofNat_tmod]
   have hm2 : an % f.lots.length < f.lots.length := Nat.mod_lt _ (by omega)
   obtain ⟨k, hk⟩ : ∃ k, an % f.lots.length = k := ⟨_, rfl⟩
   rw [hk] at hm1 hm2
   clear hk
   have hwa : IntKind.i64.wrap (an : Int) = (an : Int) := IntWalk.i64_in _ (by omega)
   have HSF : Hid (∀ W, Below w4.heap.size w4 W → SrcLots w4.heap.size W (.slice (some ⟨b, off, none⟩) f.lots.length cap) f.lots) := Lib.hid fun W hW => (HF.out.2.2.below (HB4.out.trans (hW.mono HB4.out.size)) hB).src (Nat.le_trans hB HB4.out.size)
   have HKP : Hid (∀ W, Below w4.heap.size w4 W → W.cell? ⟨w.heap.size, 0, none⟩ = some (.int .i64 f.senders) ∧ W.cell? ⟨w.heap.size, 1, none⟩ = some (.slice (some ⟨b, off, none⟩) f.lots.length cap)) := Lib.hid fun W hW => ⟨(HXF4.out.below hW HXF4.out.1).2 0, (HXF4.out.below hW HXF4.out.1).2 1⟩
   have hklt := hm2
   obtain ⟨V, hV⟩ : ∃ V : List (Option Value), V = [some (.pointer (some ⟨w.heap.size, 0, none⟩)), some (.int .i64 f.senders), none, some (.pointer (some ⟨w.heap.size, 1, none⟩)), some (.slice (some ⟨b, off, none⟩) f.lots.length cap), none, none, none, none] := ⟨_, rfl⟩
   have HVV := Lib.hid hV
   clear hV
   refine wp_region_V [some 38, some 39, some 40, some 41, some 42, some 43, some 44, some 7, none] (fun L w' xs => ValsAt V L xs ∧ (AC w4 f.lots (.int .i64 f.senders) L (xs 2) (xs 5) (xs 6) (xs 7) w')) (by kernel_rfl) (by kernel_rfl) (by rfl) (by rfl) (by rfl) ?_ ?_ ?_
   focus
    exact fun xs => ⟨ValsAt.none _ _, AC.start (below_drewN (Below.refl _ _) 1)⟩
   focus
    refine ⟨?_, ?_, ?_, ?_, ?_, ?_, ?_, ?_, ?_, trivial⟩
    all_goals
     intro L a' w' xs hi hd hf hJ K hK
     obtain ⟨hv, hA⟩ := hJ
     have HF := Lib.hid hf
     have HVA := Lib.hid hv
     have HLI := Lib.hid hi
     clear hf hv hi
    focus
     clear hd
     obtain ⟨ρ, hρ⟩ : ∃ ρ, a'.eval = ρ := ⟨_, rfl⟩
     have hcst : ∀ v, ρ (.const v) = v := fun v => (congrFun hρ (.const v)).symm
     have l3 : ρ (.tmp 3) = .pointer (some ⟨w.heap.size, 0, none⟩) := (congrFun hρ (.tmp 3)).symm.trans (HF.out.lo 3 rfl)
     rw [if_pos (by simp [Region.wanted])]
     unfold Oper.wp
     rw [hρ]
     clear hρ
     go_simp
     exact hK.out _ _ ⟨HVA.out.set (i := 0) (by rw [HVV.out]; rfl), (by simp only [updV_ne (xs := xs) (show (2 : Nat) ≠ 0 by decide), updV_ne (xs := xs) (show (5 : Nat) ≠ 0 by decide), updV_ne (xs := xs) (show (6 : Nat) ≠ 0 by decide), updV_ne (xs := xs) (show (7 : Nat) ≠ 0 by decide)]; exact hA.pass (by omega))⟩
    focus
     obtain ⟨d0, _⟩ := hd
     obtain ⟨ρ, hρ⟩ : ∃ ρ, a'.eval = ρ := ⟨_, rfl⟩
     have hcst : ∀ v, ρ (.const v) = v := fun v => (congrFun hρ (.const v)).symm
     have v0 : ρ (.tmp 38) = .pointer (some ⟨w.heap.size, 0, none⟩) := (congrFun hρ (.tmp 38)).symm.trans ((HF.out.ev 0 rfl d0).trans (HVA.out 0 _ (by rw [HVV.out]; rfl) d0))
     obtain ⟨k0, k1⟩ := HKP.out _ hA.hb
     rw [if_pos (by simp [Region.wanted])]
     unfold Oper.wp
     rw [hρ]
     clear hρ
     go_simp
     exact hK.out _ _ ⟨HVA.out.set (i := 1) (by rw [HVV.out]; rfl), (by simp only [updV_ne (xs := xs) (show (2 : Nat) ≠ 1 by decide), updV_ne (xs := xs) (show (5 : Nat) ≠ 1 by decide), updV_ne (xs := xs) (show (6 : Nat) ≠ 1 by decide), updV_ne (xs := xs) (show (7 : Nat) ≠ 1 by decide)]; exact hA.pass (by omega))⟩
    focus
     clear hd
     obtain ⟨ρ, hρ⟩ : ∃ ρ, a'.eval = ρ := ⟨_, rfl⟩
     have hcst : ∀ v, ρ (.const v) = v := fun v => (congrFun hρ (.const v)).symm
     rw [if_pos (by simp [Region.wanted])]
     unfold Oper.wp
     rw [hρ]
     clear hρ
     go_simp
     exact hK.out _ _ ⟨HVA.out.free (i := 2) (by rw [HVV.out]; rfl) _, (by simp only [updV_ne (xs := xs) (show (5 : Nat) ≠ 2 by decide), updV_ne (xs := xs) (show (6 : Nat) ≠ 2 by decide), updV_ne (xs := xs) (show (7 : Nat) ≠ 2 by decide), updV_self]; exact hA.s2 HLI.out)⟩
    focus
     clear hd
     obtain ⟨ρ, hρ⟩ : ∃ ρ, a'.eval = ρ := ⟨_, rfl⟩
     have hcst : ∀ v, ρ (.const v) = v := fun v => (congrFun hρ (.const v)).symm
     have l3 : ρ (.tmp 3) = .pointer (some ⟨w.heap.size, 0, none⟩) := (congrFun hρ (.tmp 3)).symm.trans (HF.out.lo 3 rfl)
     rw [if_pos (by simp [Region.wanted])]
     unfold Oper.wp
     rw [hρ]
     clear hρ
     go_simp
     exact hK.out _ _ ⟨HVA.out.set (i := 3) (by rw [HVV.out]; rfl), (by simp only [updV_ne (xs := xs) (show (2 : Nat) ≠ 3 by decide), updV_ne (xs := xs) (show (5 : Nat) ≠ 3 by decide), updV_ne (xs := xs) (show (6 : Nat) ≠ 3 by decide), updV_ne (xs := xs) (show (7 : Nat) ≠ 3 by decide)]; exact hA.pass (by omega))⟩
    focus
     obtain ⟨d3, _⟩ := hd
     obtain ⟨ρ, hρ⟩ : ∃ ρ, a'.eval = ρ := ⟨_, rfl⟩
     have hcst : ∀ v, ρ (.const v) = v := fun v => (congrFun hρ (.const v)).symm
     have v3 : ρ (.tmp 41) = .pointer (some ⟨w.heap.size, 1, none⟩) := (congrFun hρ (.tmp 41)).symm.trans ((HF.out.ev 3 rfl d3).trans (HVA.out 3 _ (by rw [HVV.out]; rfl) d3))
     obtain ⟨k0, k1⟩ := HKP.out _ hA.hb
     rw [if_pos (by simp [Region.wanted])]
     unfold Oper.wp
     rw [hρ]
     clear hρ
     go_simp
     exact hK.out _ _ ⟨HVA.out.set (i := 4) (by rw [HVV.out]; rfl), (by simp only [updV_ne (xs := xs) (show (2 : Nat) ≠ 4 by decide), updV_ne (xs := xs) (show (5 : Nat) ≠ 4 by decide), updV_ne (xs := xs) (show (6 : Nat) ≠ 4 by decide), updV_ne (xs := xs) (show (7 : Nat) ≠ 4 by decide)]; exact hA.pass (by omega))⟩
    focus
     obtain ⟨d2, d4, _⟩ := hd
     have v2 : a'.eval (.tmp 40) = xs 2 := HF.out.ev 2 rfl d2
     have v4 : a'.eval (.tmp 42) = .slice (some ⟨b, off, none⟩) f.lots.length cap := (HF.out.ev 4 rfl d4).trans (HVA.out 4 _ (by rw [HVV.out]; rfl) d4)
     rw [if_pos (by simp [Region.wanted])]
     obtain ⟨v5, w5, q1, q2, q3, q4⟩ := run_append_lots (ty := 22) (hA.h2 d2 HLI.out) (HSF.out _ hA.hb) (by simp; omega) hA.hb.size
     refine wp_of_append w' rfl v2 v4 q1 ?_
     exact hK.out _ _ ⟨HVA.out.free (i := 5) (by rw [HVV.out]; rfl) _, (by simp only [updV_ne (xs := xs) (show (2 : Nat) ≠ 5 by decide), updV_ne (xs := xs) (show (6 : Nat) ≠ 5 by decide), updV_ne (xs := xs) (show (7 : Nat) ≠ 5 by decide), updV_self]; exact hA.s5 HLI.out d2 (by simpa using q2) q3 q4)⟩
    focus
     obtain ⟨d1, d5, _⟩ := hd
     obtain ⟨ρ, hρ⟩ : ∃ ρ, a'.eval = ρ := ⟨_, rfl⟩
     have hcst : ∀ v, ρ (.const v) = v := fun v => (congrFun hρ (.const v)).symm
     have v1 : ρ (.tmp 39) = .int .i64 f.senders := (congrFun hρ (.tmp 39)).symm.trans ((HF.out.ev 1 rfl d1).trans (HVA.out 1 _ (by rw [HVV.out]; rfl) d1))
     have v5 : ρ (.tmp 43) = xs 5 := (congrFun hρ (.tmp 43)).symm.trans (HF.out.ev 5 rfl d5)
     rw [if_pos (by simp [Region.wanted])]
     unfold Oper.wp
     rw [hρ]
     clear hρ
     obtain ⟨a6, c6, e6⟩ := (hA.h5 d5).form
     rw [e6] at v5
     have HE6 := Lib.hid e6
     clear e6
     go_simp
     exact hK.out _ _ ⟨HVA.out.free (i := 6) (by rw [HVV.out]; rfl) _, (by simp only [updV_ne (xs := xs) (show (2 : Nat) ≠ 6 by decide), updV_ne (xs := xs) (show (5 : Nat) ≠ 6 by decide), updV_ne (xs := xs) (show (7 : Nat) ≠ 6 by decide), updV_self]; rw [← HE6.out]; exact hA.s6 HLI.out d5)⟩
    focus
     clear hd
     obtain ⟨ρ, hρ⟩ : ∃ ρ, a'.eval = ρ := ⟨_, rfl⟩
     have hcst : ∀ v, ρ (.const v) = v := fun v => (congrFun hρ (.const v)).symm
     rw [if_pos (by simp [Region.wanted])]
     unfold Oper.wp
     rw [hρ]
     clear hρ
     go_simp
     exact hK.out _ _ ⟨HVA.out.free (i := 7) (by rw [HVV.out]; rfl) _, (by simp only [updV_ne (xs := xs) (show (2 : Nat) ≠ 7 by decide), updV_ne (xs := xs) (show (5 : Nat) ≠ 7 by decide), updV_ne (xs := xs) (show (6 : Nat) ≠ 7 by decide), updV_self]; exact hA.s7 HLI.out _)⟩
    focus
     obtain ⟨d7, d6, d5, d0, d1, d2, d3, d4, _, _, _, _⟩ := hd
     obtain ⟨ρ, hρ⟩ : ∃ ρ, a'.eval = ρ := ⟨_, rfl⟩
     have hcst : ∀ v, ρ (.const v) = v := fun v => (congrFun hρ (.const v)).symm
     have v7 : ρ (.tmp 7) = xs 7 := (congrFun hρ (.tmp 7)).symm.trans (HF.out.ev 7 rfl d7)
     have v6 : ρ (.tmp 44) = xs 6 := (congrFun hρ (.tmp 44)).symm.trans (HF.out.ev 6 rfl d6)
     rw [if_pos (by simp [Region.wanted])]
     unfold Oper.wp
     rw [hρ]
     clear hρ
     obtain ⟨a6, c6, e6⟩ := (hA.h5 (hA.c6 d6)).form
     obtain ⟨p, e7, p1, p2, p3, p4⟩ := hA.h7 d7 HLI.out
     rw [e7] at v7
     rw [hA.h6 d6, e6] at v6
     have HE6 := Lib.hid e6
     have HE7 := Lib.hid e7
     have m0 := p2.cell 0
     have m1 := p2.cell 1
     have g0 := p2.free 0
     have g1 := p2.free 1
     simp at m0 m1
     clear e6 e7 p1 p2 p3 p4
     go_simp
     exact hK.out undef _ ⟨HVA.out.free (i := 8) (by rw [HVV.out]; rfl) _, (by simp only [updV_ne (xs := xs) (show (2 : Nat) ≠ 8 by decide), updV_ne (xs := xs) (show (5 : Nat) ≠ 8 by decide), updV_ne (xs := xs) (show (6 : Nat) ≠ 8 by decide), updV_ne (xs := xs) (show (7 : Nat) ≠ 8 by decide)]; exact hA.s8 HLI.out d7 d6 (hA.c6 d6) d2 HE7.out HE6.out)⟩
   focus
    intro L w' xs hL hJ
    obtain ⟨hv, hA⟩ := hJ
    have e0 : xs 0 = .pointer (some ⟨w.heap.size, 0, none⟩) := hv 0 _ (by rw [HVV.out]; rfl) (hL 0 (by decide))
    have e1 : xs 1 = .int .i64 f.senders := hv 1 _ (by rw [HVV.out]; rfl) (hL 1 (by decide))
    have e3 : xs 3 = .pointer (some ⟨w.heap.size, 1, none⟩) := hv 3 _ (by rw [HVV.out]; rfl) (hL 3 (by decide))
    have e4 : xs 4 = .slice (some ⟨b, off, none⟩) f.lots.length cap := hv 4 _ (by rw [HVV.out]; rfl) (hL 4 (by decide))
    simp only [putGo, Act.put, List.setIfInBounds_toArray, List.set_cons_zero, List.set_cons_succ, e0, e1, e3, e4]
    clear hv e0 e1 e3 e4
    obtain ⟨p, n5, c5, a5, e7, hp1, hp2, ho5, hb5⟩ := hA.h8 (hL 8 (by decide))
    simp only [e7]
    clear e7 hL hA
    obtain ⟨w5, hW5⟩ : ∃ W, W = w' := ⟨_, rfl⟩
    rw [← hW5] at hp2 ho5 hb5 ⊢
    clear hW5
    obtain ⟨g, c5', e5, hg1, hg2, hg3⟩ := ho5.addr (by omega)
    obtain ⟨rfl, rfl, rfl⟩ : a5 = some ⟨g, 0, none⟩ ∧ n5 = f.lots.length ∧ c5 = c5' := by simpa using e5
    have HO5 := Lib.hid ho5
    have HP5 := Lib.hid hp2
    have HB5X := Lib.hid hb5
    have HGB := Lib.hid hg1
    have hb := hb5
    clear ho5 hb5 e5 hp2
    have HXF5 := Lib.hid (HXF4.out.ext hb)
    have HB5 : Hid (Below w.heap.size w w5) := Lib.hid (HB4.out.trans (hb.mono HB4.out.size))
    clear hb
    have rXF := HXF5.out.2
    go_upto_region 7 with fail
    clear rXF
    obtain ⟨V, hV⟩ : ∃ V : List (Option Value), V = [some (.pointer (some ⟨p, 1, none⟩)), some (.slice (some ⟨g, 0, none⟩) f.lots.length c5), some (.int .i64 (k : Int)), some (.pointer (some ⟨p, 1, none⟩)), some (.slice (some ⟨g, 0, none⟩) f.lots.length c5), some (.int .i64 (k : Int)), some (.pointer (some ⟨g, k * 3, none⟩)), some (.pointer (some ⟨g, k * 3 + 1, none⟩)), none, some (.pointer (some ⟨g, k * 3, none⟩)), some (.pointer (some ⟨g, k * 3 + 2, none⟩)), none] := ⟨_, rfl⟩
    have HVV := Lib.hid hV
    clear hV
    refine wp_region_V [some 51, some 52, some 53, some 54, some 55, some 56, some 57, some 58, none, some 59, some 60, none] (fun L w' xs => ValsAt V L xs ∧ (Below w4.heap.size w4 w' ∧ CellsN w' p #[.int .i64 f.senders, .slice (some ⟨g, 0, none⟩) f.lots.length c5] ∧ (L 8 = false → OwnLots w4.heap.size w' (.slice (some ⟨g, 0, none⟩) f.lots.length c5) f.lots) ∧ (L 8 = true → L 11 = false → OwnLots w4.heap.size w' (.slice (some ⟨g, 0, none⟩) f.lots.length c5) (f.lots.set k ⟨(lotAt f.lots k).ins, false, (lotAt f.lots k).perm⟩)) ∧ (L 11 = true → OwnLots w4.heap.size w' (.slice (some ⟨g, 0, none⟩) f.lots.length c5) (f.lots.set k ⟨(lotAt f.lots k).ins, false, []⟩)) ∧ (L 11 = true → L 8 = true))) (by kernel_rfl) (by kernel_rfl) (by rfl) (by rfl) (by rfl) ?_ ?_ ?_
    focus
     exact fun xs => ⟨ValsAt.none _ _, below_drewN HB5X.out 1, HP5.out, (fun _ => HO5.out), (fun h _ => by cases h), (fun h => by cases h), (fun h => by cases h)⟩
    focus
     refine ⟨?_, ?_, ?_, ?_, ?_, ?_, ?_, ?_, ?_, ?_, ?_, ?_, trivial⟩
     all_goals
      intro L a' w' xs hi hd hf hJ K hK
      obtain ⟨hv, hb, hp, ho, hs, hs2, hs3⟩ := hJ
      have HF := Lib.hid hf
      have HVA := Lib.hid hv
      have HLI := Lib.hid hi
      clear hf hv hi
     focus
      clear hd
      obtain ⟨ρ, hρ⟩ : ∃ ρ, a'.eval = ρ := ⟨_, rfl⟩
      have hcst : ∀ v, ρ (.const v) = v := fun v => (congrFun hρ (.const v)).symm
      have l7 : ρ (.tmp 7) = .pointer (some ⟨p, 0, none⟩) := (congrFun hρ (.tmp 7)).symm.trans (HF.out.lo 7 rfl)
      rw [if_pos (by simp [Region.wanted])]
      unfold Oper.wp
      rw [hρ]
      clear hρ
      go_simp
      exact hK.out _ _ ⟨HVA.out.set (i := 0) (by rw [HVV.out]; rfl), hb, hp, ho, hs, hs2, hs3⟩
     focus
      obtain ⟨d0, _⟩ := hd
      obtain ⟨ρ, hρ⟩ : ∃ ρ, a'.eval = ρ := ⟨_, rfl⟩
      have hcst : ∀ v, ρ (.const v) = v := fun v => (congrFun hρ (.const v)).symm
      have v0 : ρ (.tmp 51) = .pointer (some ⟨p, 1, none⟩) := (congrFun hρ (.tmp 51)).symm.trans ((HF.out.ev 0 rfl d0).trans (HVA.out 0 _ (by rw [HVV.out]; rfl) d0))
      have m1 := hp.cell 1
      simp at m1
      rw [if_pos (by simp [Region.wanted])]
      unfold Oper.wp
      rw [hρ]
      clear hρ
      go_simp
      exact hK.out _ _ ⟨HVA.out.set (i := 1) (by rw [HVV.out]; rfl), hb, hp, ho, hs, hs2, hs3⟩
     focus
      clear hd
      obtain ⟨ρ, hρ⟩ : ∃ ρ, a'.eval = ρ := ⟨_, rfl⟩
      have hcst : ∀ v, ρ (.const v) = v := fun v => (congrFun hρ (.const v)).symm
      have l8 : ρ (.tmp 8) = .int .i64 (k : Int) := (congrFun hρ (.tmp 8)).symm.trans (HF.out.lo 8 rfl)
      rw [if_pos (by simp [Region.wanted])]
      unfold Oper.wp
      rw [hρ]
      clear hρ
      go_simp
      exact hK.out _ _ ⟨HVA.out.set (i := 2) (by rw [HVV.out]; rfl), hb, hp, ho, hs, hs2, hs3⟩
     focus
      clear hd
      obtain ⟨ρ, hρ⟩ : ∃ ρ, a'.eval = ρ := ⟨_, rfl⟩
      have hcst : ∀ v, ρ (.const v) = v := fun v => (congrFun hρ (.const v)).symm
      have l7 : ρ (.tmp 7) = .pointer (some ⟨p, 0, none⟩) := (congrFun hρ (.tmp 7)).symm.trans (HF.out.lo 7 rfl)
      rw [if_pos (by simp [Region.wanted])]
      unfold Oper.wp
      rw [hρ]
      clear hρ
      go_simp
      exact hK.out _ _ ⟨HVA.out.set (i := 3) (by rw [HVV.out]; rfl), hb, hp, ho, hs, hs2, hs3⟩
     focus
      obtain ⟨d3, _⟩ := hd
      obtain ⟨ρ, hρ⟩ : ∃ ρ, a'.eval = ρ := ⟨_, rfl⟩
      have hcst : ∀ v, ρ (.const v) = v := fun v => (congrFun hρ (.const v)).symm
      have v3 : ρ (.tmp 54) = .pointer (some ⟨p, 1, none⟩) := (congrFun hρ (.tmp 54)).symm.trans ((HF.out.ev 3 rfl d3).trans (HVA.out 3 _ (by rw [HVV.out]; rfl) d3))
      have m1 := hp.cell 1
      simp at m1
      rw [if_pos (by simp [Region.wanted])]
      unfold Oper.wp
      rw [hρ]
      clear hρ
      go_simp
      exact hK.out _ _ ⟨HVA.out.set (i := 4) (by rw [HVV.out]; rfl), hb, hp, ho, hs, hs2, hs3⟩
     focus
      clear hd
      obtain ⟨ρ, hρ⟩ : ∃ ρ, a'.eval = ρ := ⟨_, rfl⟩
      have hcst : ∀ v, ρ (.const v) = v := fun v => (congrFun hρ (.const v)).symm
      have l8 : ρ (.tmp 8) = .int .i64 (k : Int) := (congrFun hρ (.tmp 8)).symm.trans (HF.out.lo 8 rfl)
      rw [if_pos (by simp [Region.wanted])]
      unfold Oper.wp
      rw [hρ]
      clear hρ
      go_simp
      exact hK.out _ _ ⟨HVA.out.set (i := 5) (by rw [HVV.out]; rfl), hb, hp, ho, hs, hs2, hs3⟩
     focus
      obtain ⟨d1, d2, d0, _, _, _⟩ := hd
      obtain ⟨ρ, hρ⟩ : ∃ ρ, a'.eval = ρ := ⟨_, rfl⟩
      have hcst : ∀ v, ρ (.const v) = v := fun v => (congrFun hρ (.const v)).symm
      have v1 : ρ (.tmp 52) = .slice (some ⟨g, 0, none⟩) f.lots.length c5 := (congrFun hρ (.tmp 52)).symm.trans ((HF.out.ev 1 rfl d1).trans (HVA.out 1 _ (by rw [HVV.out]; rfl) d1))
      have v2 : ρ (.tmp 53) = .int .i64 (k : Int) := (congrFun hρ (.tmp 53)).symm.trans ((HF.out.ev 2 rfl d2).trans (HVA.out 2 _ (by rw [HVV.out]; rfl) d2))
      rw [if_pos (by simp [Region.wanted])]
      unfold Oper.wp
      rw [hρ]
      clear hρ
      go_simp
      exact hK.out _ _ ⟨HVA.out.set (i := 6) (by rw [HVV.out]; rfl), hb, hp, ho, hs, hs2, hs3⟩
     focus
      obtain ⟨d6, d0, d1, d2, _⟩ := hd
      obtain ⟨ρ, hρ⟩ : ∃ ρ, a'.eval = ρ := ⟨_, rfl⟩
      have hcst : ∀ v, ρ (.const v) = v := fun v => (congrFun hρ (.const v)).symm
      have v6 : ρ (.tmp 57) = .pointer (some ⟨g, k * 3, none⟩) := (congrFun hρ (.tmp 57)).symm.trans ((HF.out.ev 6 rfl d6).trans (HVA.out 6 _ (by rw [HVV.out]; rfl) d6))
      rw [if_pos (by simp [Region.wanted])]
      unfold Oper.wp
      rw [hρ]
      clear hρ
      go_simp
      exact hK.out _ _ ⟨HVA.out.set (i := 7) (by rw [HVV.out]; rfl), hb, hp, ho, hs, hs2, hs3⟩
     focus
      obtain ⟨d7, d0, d1, d2, _⟩ := hd
      obtain ⟨ρ, hρ⟩ : ∃ ρ, a'.eval = ρ := ⟨_, rfl⟩
      have hcst : ∀ v, ρ (.const v) = v := fun v => (congrFun hρ (.const v)).symm
      have v7 : ρ (.tmp 58) = .pointer (some ⟨g, k * 3 + 1, none⟩) := (congrFun hρ (.tmp 58)).symm.trans ((HF.out.ev 7 rfl d7).trans (HVA.out 7 _ (by rw [HVV.out]; rfl) d7))
      rw [if_pos (by simp [Region.wanted])]
      unfold Oper.wp
      rw [hρ]
      clear hρ
      have ho' := ho HLI.out
      have h11 : L 11 = false := by
       cases e : L 11 with
       | false => rfl
       | true => have := hs3 e; rw [HLI.out] at this; cases this
      obtain ⟨ui, uk, up, m0, m1, m2, _, hfr⟩ := ho'.cells3 rfl hklt
      have g1 := hfr (k * 3 + 1)
      have HN := Lib.hid (ho'.apart rfl (by omega) hp)
      have HST := Lib.hid (ho'.known rfl hklt false)
      have HBB := Lib.hid hb
      have HPP := Lib.hid hp
      clear ho hs hp hb ho' hfr hs2 hs3 m0 m2
      go_simp
      exact hK.out undef _ ⟨HVA.out.free (i := 8) (by rw [HVV.out]; rfl) _, (HBB.out.setCell (p := ⟨g, k * 3 + 1, none⟩) HGB.out _), (HPP.out.grown (grown_setCell _ ⟨g, k * 3 + 1, none⟩ _) (fun e => HN.out (by simpa using e))), (fun h => by cases h), (fun _ _ => HST.out), (fun h => by have h : L 11 = true := h; rw [h11] at h; cases h), (fun _ => rfl)⟩
     focus
      obtain ⟨d4, d5, d0, d1, d2, d3, _, _, d6, d7, d8, _⟩ := hd
      obtain ⟨ρ, hρ⟩ : ∃ ρ, a'.eval = ρ := ⟨_, rfl⟩
      have hcst : ∀ v, ρ (.const v) = v := fun v => (congrFun hρ (.const v)).symm
      have v4 : ρ (.tmp 55) = .slice (some ⟨g, 0, none⟩) f.lots.length c5 := (congrFun hρ (.tmp 55)).symm.trans ((HF.out.ev 4 rfl d4).trans (HVA.out 4 _ (by rw [HVV.out]; rfl) d4))
      have v5 : ρ (.tmp 56) = .int .i64 (k : Int) := (congrFun hρ (.tmp 56)).symm.trans ((HF.out.ev 5 rfl d5).trans (HVA.out 5 _ (by rw [HVV.out]; rfl) d5))
      rw [if_pos (by simp [Region.wanted])]
      unfold Oper.wp
      rw [hρ]
      clear hρ
      go_simp
      exact hK.out _ _ ⟨HVA.out.set (i := 9) (by rw [HVV.out]; rfl), hb, hp, ho, hs, hs2, hs3⟩
     focus
      obtain ⟨d9, d0, d1, d2, d3, d4, d5, d6, d7, d8, _⟩ := hd
      obtain ⟨ρ, hρ⟩ : ∃ ρ, a'.eval = ρ := ⟨_, rfl⟩
      have hcst : ∀ v, ρ (.const v) = v := fun v => (congrFun hρ (.const v)).symm
      have v9 : ρ (.tmp 59) = .pointer (some ⟨g, k * 3, none⟩) := (congrFun hρ (.tmp 59)).symm.trans ((HF.out.ev 9 rfl d9).trans (HVA.out 9 _ (by rw [HVV.out]; rfl) d9))
      rw [if_pos (by simp [Region.wanted])]
      unfold Oper.wp
      rw [hρ]
      clear hρ
      go_simp
      exact hK.out _ _ ⟨HVA.out.set (i := 10) (by rw [HVV.out]; rfl), hb, hp, ho, hs, hs2, hs3⟩
     focus
      obtain ⟨d10, d8, d0, d1, d2, d3, d4, d5, d6, d7, _, _⟩ := hd
      obtain ⟨ρ, hρ⟩ : ∃ ρ, a'.eval = ρ := ⟨_, rfl⟩
      have hcst : ∀ v, ρ (.const v) = v := fun v => (congrFun hρ (.const v)).symm
      have v10 : ρ (.tmp 60) = .pointer (some ⟨g, k * 3 + 2, none⟩) := (congrFun hρ (.tmp 60)).symm.trans ((HF.out.ev 10 rfl d10).trans (HVA.out 10 _ (by rw [HVV.out]; rfl) d10))
      rw [if_pos (by simp [Region.wanted])]
      unfold Oper.wp
      rw [hρ]
      clear hρ
      have ho' := hs d8 HLI.out
      have hlen : ((f.lots.set k ⟨(lotAt f.lots k).ins, false, (lotAt f.lots k).perm⟩)).length = f.lots.length := List.length_set
      have hklt2 : k < ((f.lots.set k ⟨(lotAt f.lots k).ins, false, (lotAt f.lots k).perm⟩)).length := by rw [hlen]; exact hklt
      obtain ⟨ui, uk, up, m0, m1, m2, _, hfr⟩ := ho'.cells3 hlen.symm hklt2
      have g1 := hfr (k * 3 + 2)
      have HN := Lib.hid (ho'.apart hlen.symm (by omega) hp)
      have HST := Lib.hid (ho'.noperm hlen.symm hklt2)
      have HEL : Hid (((f.lots.set k ⟨(lotAt f.lots k).ins, false, (lotAt f.lots k).perm⟩)).set k ⟨(lotAt (f.lots.set k ⟨(lotAt f.lots k).ins, false, (lotAt f.lots k).perm⟩) k).ins, (lotAt (f.lots.set k ⟨(lotAt f.lots k).ins, false, (lotAt f.lots k).perm⟩) k).known, []⟩ = (f.lots.set k ⟨(lotAt f.lots k).ins, false, []⟩)) := Lib.hid (by rw [lotAt_setL hklt, if_pos rfl, List.set_set])
      have HBB := Lib.hid hb
      have HPP := Lib.hid hp
      have HD8 := Lib.hid d8
      clear ho hs hp hb ho' hfr hs2 hs3 m0 m1 hlen hklt2
      go_simp
      exact hK.out undef _ ⟨HVA.out.free (i := 11) (by rw [HVV.out]; rfl) _, (HBB.out.setCell (p := ⟨g, k * 3 + 2, none⟩) HGB.out _), (HPP.out.grown (grown_setCell _ ⟨g, k * 3 + 2, none⟩ _) (fun e => HN.out (by simpa using e))), (fun h => by have h : L 8 = false := h; rw [HD8.out] at h; cases h), (fun _ h => by cases h), (fun _ => by rw [← HEL.out]; exact HST.out), (fun _ => HD8.out)⟩
    focus
     intro L w' xs hL hJ
     obtain ⟨hv, hb, hp, ho, hs, hs2, hs3⟩ := hJ
     have e0 : xs 0 = .pointer (some ⟨p, 1, none⟩) := hv 0 _ (by rw [HVV.out]; rfl) (hL 0 (by decide))
     have e1 : xs 1 = .slice (some ⟨g, 0, none⟩) f.lots.length c5 := hv 1 _ (by rw [HVV.out]; rfl) (hL 1 (by decide))
     have e2 : xs 2 = .int .i64 (k : Int) := hv 2 _ (by rw [HVV.out]; rfl) (hL 2 (by decide))
     have e3 : xs 3 = .pointer (some ⟨p, 1, none⟩) := hv 3 _ (by rw [HVV.out]; rfl) (hL 3 (by decide))
     have e4 : xs 4 = .slice (some ⟨g, 0, none⟩) f.lots.length c5 := hv 4 _ (by rw [HVV.out]; rfl) (hL 4 (by decide))
     have e5 : xs 5 = .int .i64 (k : Int) := hv 5 _ (by rw [HVV.out]; rfl) (hL 5 (by decide))
     have e6 : xs 6 = .pointer (some ⟨g, k * 3, none⟩) := hv 6 _ (by rw [HVV.out]; rfl) (hL 6 (by decide))
     have e7 : xs 7 = .pointer (some ⟨g, k * 3 + 1, none⟩) := hv 7 _ (by rw [HVV.out]; rfl) (hL 7 (by decide))
     have e9 : xs 9 = .pointer (some ⟨g, k * 3, none⟩) := hv 9 _ (by rw [HVV.out]; rfl) (hL 9 (by decide))
     have e10 : xs 10 = .pointer (some ⟨g, k * 3 + 2, none⟩) := hv 10 _ (by rw [HVV.out]; rfl) (hL 10 (by decide))
     simp only [putGo, Act.put, List.setIfInBounds_toArray, List.set_cons_zero, List.set_cons_succ, e0, e1, e2, e3, e4, e5, e6, e7, e9, e10]
     clear hv e0 e1 e2 e3 e4 e5 e6 e7 e9 e10
     have hO := hs2 (hL 11 (by decide))
     clear ho hs hs2 hs3 hL
     obtain ⟨w6, hW6⟩ : ∃ W, W = w' := ⟨_, rfl⟩
     rw [← hW6] at hb hp hO ⊢
     clear hW6
     have HXF6 := Lib.hid (HXF4.out.ext hb)
     have HB6 : Hid (Below w.heap.size w w6) := Lib.hid (HB4.out.trans (hb.mono HB4.out.size))
     have HXP6 : Hid (Box w6 p #[.int .i64 f.senders, .slice (some ⟨g, 0, none⟩) f.lots.length c5]) := Lib.hid hp.box
     have HUK6 : Hid (IsFlow w6.heap.size w6 (.int .i64 f.senders) (.slice (some ⟨g, 0, none⟩) f.lots.length c5) (unkAt f k)) := Lib.hid ⟨rfl, ⟨hs1, hs2⟩, hO.isLots hb.size⟩
     clear hb hp hO
     have rXP := HXP6.out.2
     go_wp2_with fail
     refine (few29_any w6.heap.size w6 _ _ _ _ _ (unkAt f k) zs [] noD HUK6.out ((HZ.out.below HB6.out hB).mono (Nat.le_trans hB HB6.out.size)) noMat (DenS.zero _ _) (Nat.le_refl _)).mono ?_
     rintro e w7 ⟨⟨rr, rfl, hfew⟩, hb⟩
     have HXF7 := Lib.hid (HXF6.out.ext hb)
     have HXP7 := Lib.hid (HXP6.out.ext hb)
     have HB7 : Hid (Below w.heap.size w w7) := Lib.hid (HB6.out.trans (hb.mono HB6.out.size))
     have HUK7 : Hid (IsFlow w7.heap.size w7 (.int .i64 f.senders) (.slice (some ⟨g, 0, none⟩) f.lots.length c5) (unkAt f k)) := Lib.hid ((HUK6.out.below hb (Nat.le_refl _)).mono hb.size)
     clear hb
     clear rXP
     cases rr
     ·go_wp2
      go_ret
      exact ⟨rfl, HB7.out⟩
     clear hfew
     have rXP := HXP7.out.2
     go_wp2_with fail
     refine (error29_any w7.heap.size w7 _ _ _ (unkAt f k) zs HUK7.out ((HZ.out.below HB7.out hB).mono (Nat.le_trans hB HB7.out.size)) (Nat.le_refl _)).mono ?_
     rintro e w8 ⟨rfl, hb⟩
     have HXF8 := Lib.hid (HXF7.out.ext hb)
     have HXP8 := Lib.hid (HXP7.out.ext hb)
     have HB8 : Hid (Below w.heap.size w w8) := Lib.hid (HB7.out.trans (hb.mono HB7.out.size))
     have HUK8 : Hid (IsFlow w8.heap.size w8 (.int .i64 f.senders) (.slice (some ⟨g, 0, none⟩) f.lots.length c5) (unkAt f k)) := Lib.hid ((HUK7.out.below hb (Nat.le_refl _)).mono hb.size)
     clear hb
     clear rXP
     by_cases he2 : errX (unkAt f k) zs = 0
     ·rw [he2]
      have HE2 := Lib.hid he2
      clear he2
      have rXF := HXF8.out.2
      go_wp2_with fail
      refine (emake_any B w8 _ _ _ f zs (HF.out.below HB8.out hB) (HZ.out.below HB8.out hB) (Nat.le_trans hB HB8.out.size)).mono ?_
      rintro e w9 ⟨v1, rfl, hm, hb⟩
      obtain ⟨bm1, om1, cm1, ⟨am1, rfl, _⟩, _⟩ := id hm
      have HM19 := Lib.hid hm
      clear hm
      have HXF9 := Lib.hid (HXF8.out.ext hb)
      have HXP9 := Lib.hid (HXP8.out.ext hb)
      have HB9 : Hid (Below w.heap.size w w9) := Lib.hid (HB8.out.trans (hb.mono HB8.out.size))
      have HUK9 : Hid (IsFlow w9.heap.size w9 (.int .i64 f.senders) (.slice (some ⟨g, 0, none⟩) f.lots.length c5) (unkAt f k)) := Lib.hid ((HUK8.out.below hb (Nat.le_refl _)).mono hb.size)
      clear hb
      clear rXF
      by_cases hmb : makeB f zs = true
      ·rw [hmb, HE0.out]
       have HRG := Lib.hid (unk_right hklt HE0.out HE2.out hmb)
       have HLL := Lib.hid (least_law HE2.out HRG.out)
       clear hmb
       have rXP := HXP9.out.2
       go_wp2_with fail
       refine (echk_any w9.heap.size w9 _ _ _ _ (unkAt f k) zs (makeR f zs) HUK9.out ((HZ.out.below HB9.out hB).mono (Nat.le_trans hB HB9.out.size)) HM19.out (Nat.le_refl _)).mono ?_
       rintro e w10 ⟨rfl, hb⟩
       rw [HRG.out, HE2.out]
       have HXF10 := Lib.hid (HXF9.out.ext hb)
       have HXP10 := Lib.hid (HXP9.out.ext hb)
       have HM110 : Hid (IsMat w10.heap.size w10 (.slice am1 (makeR f zs).length cm1) (makeR f zs)) := Lib.hid ((HM19.out.below hb (Nat.le_refl _)).mono hb.size)
       have HB10 : Hid (Below w.heap.size w w10) := Lib.hid (HB9.out.trans (hb.mono HB9.out.size))
       have HUK10 : Hid (IsFlow w10.heap.size w10 (.int .i64 f.senders) (.slice (some ⟨g, 0, none⟩) f.lots.length c5) (unkAt f k)) := Lib.hid ((HUK9.out.below hb (Nat.le_refl _)).mono hb.size)
       clear hb
       clear rXP
       have rXP := HXP10.out.2
       go_wp2_with fail
       refine (emake_any w10.heap.size w10 _ _ _ (unkAt f k) zs HUK10.out ((HZ.out.below HB10.out hB).mono (Nat.le_trans hB HB10.out.size)) (Nat.le_refl _)).mono ?_
       rintro e w11 ⟨v2, rfl, hm, hb⟩
       rw [HLL.out.1, HE2.out]
       obtain ⟨bm2, om2, cm2, ⟨am2, rfl, _⟩, _⟩ := id hm
       have HM211 := Lib.hid hm
       clear hm
       have HXF11 := Lib.hid (HXF10.out.ext hb)
       have HXP11 := Lib.hid (HXP10.out.ext hb)
       have HM111 : Hid (IsMat w11.heap.size w11 (.slice am1 (makeR f zs).length cm1) (makeR f zs)) := Lib.hid ((HM110.out.below hb (Nat.le_refl _)).mono hb.size)
       have HB11 : Hid (Below w.heap.size w w11) := Lib.hid (HB10.out.trans (hb.mono HB10.out.size))
       have HUK11 : Hid (IsFlow w11.heap.size w11 (.int .i64 f.senders) (.slice (some ⟨g, 0, none⟩) f.lots.length c5) (unkAt f k)) := Lib.hid ((HUK10.out.below hb (Nat.le_refl _)).mono hb.size)
       clear hb
       clear rXP
       obtain ⟨LV, hLV⟩ : ∃ x, makeR (unkAt f k) zs = x := ⟨_, rfl⟩
       obtain ⟨W, hWV⟩ : ∃ x, makeR f zs = x := ⟨_, rfl⟩
       have hll := HLL.out
       rw [hLV, hWV] at hll
       rw [hLV] at HM211 ⊢
       rw [hWV] at HM111 ⊢
       have HFIN := Lib.hid hll.2.2
       have HNL := Lib.hid hll.2.1
       rw [hll.2.1] at HM211 ⊢
       obtain ⟨nw, hnw⟩ : ∃ x, W.length = x := ⟨_, rfl⟩
       have HNW := Lib.hid hnw
       rw [hnw] at HM111 HM211 ⊢
       have h2000 : nw ≤ 2000 := by
        have h : (makeR f zs).length = f.lots.length := ((right_iff HE2.out).1 HRG.out).1.trans List.length_set
        rw [hWV, hnw] at h
        omega
       clear hLV hWV hll hnw
       have hqq : ((nw : Int) != (nw : Int)) = false := by simp
       have HRW := Lib.hid (fun (k : Nat) (hk : k < W.length) => mat_row HM111.out hk)
       have HRL := Lib.hid (fun (k : Nat) (hk : k < LV.length) => mat_row HM211.out hk)
       go_wp2
       go_loopw [124] (fun k' wr => ∃ k : Nat, k ≤ nw ∧ k' = .int .i64 k ∧ Below w11.heap.size w11 wr ∧ wayCmp LV W k = none) (fun k' _ => nw - (intOf k').toNat)
       case atStart => exact ⟨0, by omega, rfl, Below.refl _ _, rfl⟩
       case round =>
        obtain ⟨k, hk, rfl, hbr, hwc⟩ := hrel
        have HBR := Lib.hid hbr
        have HWC := Lib.hid hwc
        obtain ⟨wA, hwA⟩ : ∃ x, wr = x := ⟨_, rfl⟩
        rw [hwA] at HBR ⊢
        clear hbr hwc hwA
        by_cases hlt : k < nw
        ·have HKW : Hid (k < W.length) := Lib.hid (by rw [HNW.out]; exact hlt)
         obtain ⟨bW, oW, arW, crW, hea, hrl, hcW, hiW⟩ := HRW.out k HKW.out
         obtain ⟨bL, oL, arL, crL, heb, _, hcL, hiL⟩ := HRL.out k (by rw [HNL.out]; exact HKW.out)
         subst hea heb
         have HCW := Lib.hid hcW
         have HIW := Lib.hid hiW
         have HCL := Lib.hid hcL
         have HIL := Lib.hid hiL
         have HRC := Lib.hid (fun (n : Nat) (h : rowCmp (rowAt LV k) (rowAt W k) n = none) (hn : n < (rowAt W k).length) => cmp_len HWC.out h hn HKW.out HFIN.out)
         have HRN := Lib.hid (fun (n : Nat) (h : rowCmp (rowAt LV k) (rowAt W k) n = none) (hn : n < (rowAt W k).length) => cmp_ne HWC.out h hn HKW.out HFIN.out)
         have HRE := Lib.hid (fun (n : Nat) (h : rowCmp (rowAt LV k) (rowAt W k) n = none) (hn : n < (rowAt W k).length) => cmp_eq HWC.out h hn HKW.out HFIN.out)
         have HRR := Lib.hid (cmp_row HWC.out)
         obtain ⟨nr, hnr⟩ : ∃ x, (rowAt W k).length = x := ⟨_, rfl⟩
         obtain ⟨np, hnp⟩ : ∃ x, (rowAt LV k).length = x := ⟨_, rfl⟩
         have HNP := Lib.hid hnp
         rw [hnr] at hrl HCW HIW HRC HRN HRE HRR
         rw [hnp] at HCL HIL HRC
         clear hcW hiW hcL hiL hnr hnp
         have cW := HCW.out wA HBR.out
         go_wp2
         clear cW
         go_loopw [132] (fun n' wr => ∃ n : Nat, n ≤ nr ∧ n' = .int .i64 n ∧ Below w11.heap.size w11 wr ∧ rowCmp (rowAt LV k) (rowAt W k) n = none) (fun n' _ => nr - (intOf n').toNat)
         case atStart => exact ⟨0, by omega, rfl, HBR.out, rfl⟩
         case round =>
          obtain ⟨n, hn, rfl, hbr, hrc⟩ := hrel
          have HBI := Lib.hid hbr
          have HRI := Lib.hid hrc
          obtain ⟨wB, hwB⟩ : ∃ x, wr = x := ⟨_, rfl⟩
          rw [hwB] at HBI ⊢
          clear hbr hrc hwB
          by_cases hln : n < nr
          ·have hpl := HRC.out n HRI.out hln
           obtain ⟨b1, o1, e1, hx1⟩ := HIW.out n hln
           obtain ⟨b2, o2, e2, hx2⟩ := HIL.out n hpl
           subst e1 e2
           have c1 := HCW.out wB HBI.out
           have c2 := HCL.out wB HBI.out
           have c3 := hx1 wB HBI.out
           have c4 := hx2 wB HBI.out
           have HNE := Lib.hid (HRN.out n HRI.out hln)
           have HEQ := Lib.hid (HRE.out n HRI.out hln)
           obtain ⟨x, hx⟩ : ∃ x, nth (rowAt W k) n = x := ⟨_, rfl⟩
           obtain ⟨y, hy⟩ : ∃ x, nth (rowAt LV k) n = x := ⟨_, rfl⟩
           rw [hx] at c3 HNE HEQ
           rw [hy] at c4 HNE HEQ
           clear hx1 hx2 hx hy
           have hge : decide ((np : Int) ≤ (n : Int)) = false := decide_eq_false (by omega)
           by_cases hxy : y = x
           ·subst hxy
            have hq : (y != y) = false := by simp
            go_wp2
            go_quiet (fail)
            go_wp2
            go_roundw
            case rel => exact ⟨n + 1, by omega, by go_num, below_drewN HBI.out _, HEQ.out (by trivial)⟩
            case measure => simp [intOf]; omega
           ·have hq : (y != x) = true := by simpa using hxy
            have hl : decide (y < x) = true := decide_eq_true (HNE.out hxy)
            go_wp2
            go_quiet (fail)
            go_wp2
            go_quiet (fail)
            go_wp2
            go_ret
            exact ⟨rfl, HB11.out.trans ((below_drewN (below_drewN HBI.out _) _).mono HB11.out.size)⟩
          ·obtain rfl : nr = n := by omega
           go_wp2
           go_roundw
           case rel => exact ⟨k + 1, by omega, by go_num, HBI.out, HRR.out HRI.out⟩
           case measure => simp [intOf]; omega
        ·obtain rfl : nw = k := by omega
         go_wp2
         go_ret
         exact ⟨rfl, HB11.out.trans (HBR.out.mono HB11.out.size)⟩
      ·have hmb : makeB f zs = false := by simpa using hmb
       rw [hmb, HE0.out]
       clear hmb
       go_wp2
       go_ret
       exact ⟨rfl, HB9.out⟩
     ·obtain ⟨ER, hER⟩ : ∃ x, errX (unkAt f k) zs = x := ⟨_, rfl⟩
      rw [hER] at he2 ⊢
      have he1 : (ER != 0) = true := by simpa using he2
      clear hER
      go_wp2
      go_ret
      exact ⟨rfl, HB8.out⟩
 ·obtain ⟨ER, hER⟩ : ∃ x, errX f zs = x := ⟨_, rfl⟩
  rw [hER] at he ⊢
  have he1 : (ER != 0) = true := by simpa using he
  clear hER
  go_wp2
  go_ret
  exact ⟨rfl, HB4.out⟩
end Go.Proofs.Yteiaeaciaglmgaa
