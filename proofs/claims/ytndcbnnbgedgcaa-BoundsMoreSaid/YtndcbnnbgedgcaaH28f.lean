/-
  BoundsMore holds: for all arguments the law returns true, and the arguments read as before.
  No condition beyond the row's own cells.
-/
import Derived.Test.YtndcbnnbgedgcaaG28e
import Derived.Test.YtndcbnnbgedgcaaG28a
import Derived.Test.YtndcbnnbgedgcaaS31b
import Derived.Test.YtndcbnnbgedgcaaG28b
import Derived.WalkKit
import Derived.Deep.RegionHeld
import Derived.Test.YtndcbnnbgedgcaaProg
import Derived.Test.YtndcbnnbgedgcaaApp
import Derived.Test.YtndcbnnbgedgcaaP31o
import Derived.Deep.CutRange
import Derived.Test.YtndcbnnbgedgcaaOpenM
import Derived.Test.YtndcbnnbgedgcaaOpen
import Derived.OpenShut
/-
  The walk of frankinglaw28.sane.
-/
set_option linter.unusedVariables false
set_option linter.unusedSimpArgs false
namespace Go.Proofs.Ytndcbnnbgedgcaa
open Go.RowKit

theorem litInts {B b cap : Nat} {w : World} {xs : List Int} {v : Value} (hv : v = .slice (some ⟨b, 0, none⟩) xs.length cap) (hc : xs.length ≤ cap) (hm : cap ≤ 1000) (h64 : ∀ x ∈ xs, I64 x) (hb : b < B)
    (hx : Box w b (xs.map (Value.int .i64 ·)).toArray) : IsInts B w v xs := by
  refine ⟨b, 0, cap, ⟨_, hv, hc, by omega, Or.inl rfl⟩, by omega, h64, fun j hj => ⟨hb, ?_⟩⟩
  rw [hx.2]
  simp [nth_eq_getElem hj, hj]
theorem noInts {B : Nat} {w : World} : IsInts B w (.slice none 0 0) [] :=
  ⟨0, 0, 0, ⟨_, rfl, by simp, by omega, Or.inr rfl⟩, by simp, by simp, fun j hj => by simp at hj⟩
theorem noLots {B : Nat} {w : World} : IsLots B w (.slice none 0 0) [] :=
  ⟨0, 0, 0, ⟨_, rfl, by simp, by omega, Or.inr rfl⟩, by simp, fun j hj => by simp at hj⟩
theorem oneLot {B b : Nat} {w : World} {xs ys : List Int} {kn : Bool} {v u : Value} (hx : Box w b #[v, .bool kn, u]) (hb : b < B) (h1 : IsInts B w v xs) (h2 : IsInts B w u ys) : IsLots B w (.slice (some ⟨b, 0, none⟩) 1 1) [⟨xs, kn, ys⟩] := by
  refine ⟨b, 0, 1, ⟨_, rfl, by simp, by omega, Or.inl rfl⟩, by simp, fun j hj => ?_⟩
  obtain rfl : j = 0 := by simp at hj; omega
  exact ⟨_, _, _, ⟨hb, by rw [hx.2]; rfl⟩, ⟨hb, by rw [hx.2]; rfl⟩, ⟨hb, by rw [hx.2]; rfl⟩, h1, rfl, h2⟩
theorem twoLots {B b : Nat} {w : World} {xs ys xs' ys' : List Int} {kn kn' : Bool} {v u v' u' : Value} (hx : Box w b #[v, .bool kn, u, v', .bool kn', u']) (hb : b < B) (h1 : IsInts B w v xs) (h2 : IsInts B w u ys) (h3 : IsInts B w v' xs') (h4 : IsInts B w u' ys') : IsLots B w (.slice (some ⟨b, 0, none⟩) 2 2) [⟨xs, kn, ys⟩, ⟨xs', kn', ys'⟩] := by
  refine ⟨b, 0, 2, ⟨_, rfl, by simp, by omega, Or.inl rfl⟩, by simp, fun j hj => ?_⟩
  have hj2 : j = 0 ∨ j = 1 := by simp at hj; omega
  rcases hj2 with rfl | rfl
  · exact ⟨_, _, _, ⟨hb, by rw [hx.2]; rfl⟩, ⟨hb, by rw [hx.2]; rfl⟩, ⟨hb, by rw [hx.2]; rfl⟩, h1, rfl, h2⟩
  · exact ⟨_, _, _, ⟨hb, by rw [hx.2]; rfl⟩, ⟨hb, by rw [hx.2]; rfl⟩, ⟨hb, by rw [hx.2]; rfl⟩, h3, rfl, h4⟩

set_option maxRecDepth 100000 in
/-- frankinglaw28.unknown -/
theorem lawunknown_any (w : World) (v : Value) (hv : ∃ a n c, v = .slice a n c) :
    Calls Try.prog 55 #[v] w fun e w' => e = .returned (.agg #[v, .bool false, .slice none 0 0]) ∧ Below w.heap.size w w' := by
  obtain ⟨a, n, c, rfl⟩ := hv
  go_enter Try.func55, Try.ntmps55
  go_wp2
  have hX := Box.new w #[.slice a n c, .bool false, .slice none 0 0] 45
  have n0 := hX.2 0
  have n1 := hX.2 1
  have n2 := hX.2 2
  simp at n0 n1 n2
  exact bodyPost_ret (v := .agg #[.slice a n c, .bool false, .slice none 0 0]) (by simp [results, Try.results55, go_sem, n0, n1, n2]) rfl ⟨rfl, box_below' w _⟩

set_option maxHeartbeats 4000000 in
set_option maxRecDepth 100000 in
/-- sane -/
theorem sane28_any (w : World) : Calls Try.prog 25 #[] w fun e w' => e = .returned (.bool true) ∧ Below w.heap.size w w' := by
  go_enter Try.func25, Try.ntmps25
  go_wp2_with fail
  refine (bupper_any w.heap.size w _ _ exV ⟨rfl, by simp [exV, I64], noLots⟩ (Nat.le_refl _) (by right; decide)).mono ?_
  rintro e w1 ⟨rfl, hb1⟩
  rw [exV_ans.1, exV_ans.2]
  have HB1 := Lib.hid hb1
  clear hb1
  have HL0 : Hid (IsLots (w1.heap.size + 1) (w1.alloc (.cells #[.slice none 0 0, .bool false, .slice none 0 0] 45)) (.slice (some ⟨w1.heap.size, 0, none⟩) 1 1) [⟨[], false, []⟩]) := Lib.hid (oneLot (Box.new w1 _ _) (by omega) noInts noInts)
  have HT0 : Hid (Below w.heap.size w (w1.alloc (.cells #[.slice none 0 0, .bool false, .slice none 0 0] 45))) := Lib.hid (HB1.out.alloc HB1.out.size _)
  go_wp2_with fail
  refine (blower_any (w1.heap.size + 1) _ _ _ exW ⟨rfl, by simp [exW, I64], HL0.out⟩ (by simp)).mono ?_
  rintro e w2 ⟨v2, rfl, ho2, hb2⟩
  rw [exW_ans.1, exW_ans.2.2]
  obtain ⟨a2, n2, c2, rfl⟩ := ho2.form'
  have HB2 : Hid (Below w.heap.size w w2) := Lib.hid (HT0.out.trans (hb2.mono HT0.out.size))
  clear hb2 ho2 HL0 HT0
  have HT3 : Hid (Below w.heap.size w w2) := Lib.hid (HB2.out)
  have HQ3 : Hid (Below w2.heap.size w2 w2) := Lib.hid (Below.refl w2.heap.size w2)
  have HF3 : Hid (IsFlow (w2.heap.size) w2 (.int .i64 3) (.slice none 0 0) exP) := Lib.hid ⟨rfl, by simp [exP, I64], noLots⟩
  have HL3 : Hid (IsInts (w2.heap.size) w2 (.slice none 0 0) []) := Lib.hid (noInts)
  go_wp2_with fail
  refine (isall_any (w2.heap.size) _ _ _ _ exP 1 1 [] HF3.out HL3.out (by simp) (by left; decide) (by simp) (by omega) (by omega) exP_all).mono ?_
  rintro e w3 ⟨rfl, hb3⟩
  have HB3 : Hid (Below w.heap.size w w3) := Lib.hid (HT3.out.trans (hb3.mono HT3.out.size))
  clear hb3 HT3 HQ3
  have HT4 : Hid (Below w.heap.size w (((w3.alloc (.cells #[.int .i64 0, .int .i64 1] 3)).alloc (.cells #[.int .i64 1, .int .i64 0] 3)).alloc (.cells #[.slice (some ⟨w3.heap.size, 0, none⟩) 2 2, .bool true, .slice (some ⟨w3.heap.size + 1, 0, none⟩) 2 2] 45))) := Lib.hid ((((HB3.out.alloc (by have := HB3.out.size; simp; omega) _).alloc (by have := HB3.out.size; simp; omega) _).alloc (by have := HB3.out.size; simp; omega) _))
  have HQ4 : Hid (Below w3.heap.size w3 (((w3.alloc (.cells #[.int .i64 0, .int .i64 1] 3)).alloc (.cells #[.int .i64 1, .int .i64 0] 3)).alloc (.cells #[.slice (some ⟨w3.heap.size, 0, none⟩) 2 2, .bool true, .slice (some ⟨w3.heap.size + 1, 0, none⟩) 2 2] 45))) := Lib.hid ((((Below.refl w3.heap.size w3).alloc (by simp; try omega) _).alloc (by simp; try omega) _).alloc (by simp; try omega) _)
  have HF4 : Hid (IsFlow (w3.heap.size + 1 + 1 + 1) (((w3.alloc (.cells #[.int .i64 0, .int .i64 1] 3)).alloc (.cells #[.int .i64 1, .int .i64 0] 3)).alloc (.cells #[.slice (some ⟨w3.heap.size, 0, none⟩) 2 2, .bool true, .slice (some ⟨w3.heap.size + 1, 0, none⟩) 2 2] 45)) (.int .i64 2) (.slice (some ⟨w3.heap.size + 1 + 1, 0, none⟩) 1 1) exQ) := Lib.hid ⟨rfl, by simp [exQ, I64], oneLot (by have h := Box.new ((w3.alloc (.cells #[.int .i64 0, .int .i64 1] 3)).alloc (.cells #[.int .i64 1, .int .i64 0] 3)) #[.slice (some ⟨w3.heap.size, 0, none⟩) 2 2, .bool true, .slice (some ⟨w3.heap.size + 1, 0, none⟩) 2 2] 45; simpa using h) (by omega) (litInts rfl (by decide) (by omega) (by simp [I64]) (by omega) (((Box.new w3 #[.int .i64 0, .int .i64 1] 3).alloc _).alloc _)) (litInts (b := w3.heap.size + 1) rfl (by decide) (by omega) (by simp [I64]) (by omega) (by have h := (Box.new (w3.alloc (.cells #[.int .i64 0, .int .i64 1] 3)) #[.int .i64 1, .int .i64 0] 3).alloc (.cells #[.slice (some ⟨w3.heap.size, 0, none⟩) 2 2, .bool true, .slice (some ⟨w3.heap.size + 1, 0, none⟩) 2 2] 45); simpa using h))⟩
  have HL4 : Hid (IsInts (w3.heap.size + 1 + 1 + 1) (((w3.alloc (.cells #[.int .i64 0, .int .i64 1] 3)).alloc (.cells #[.int .i64 1, .int .i64 0] 3)).alloc (.cells #[.slice (some ⟨w3.heap.size, 0, none⟩) 2 2, .bool true, .slice (some ⟨w3.heap.size + 1, 0, none⟩) 2 2] 45)) (.slice none 0 0) []) := Lib.hid (noInts)
  go_wp2_with fail
  refine (isall_any (w3.heap.size + 1 + 1 + 1) _ _ _ _ exQ 1 1 [] HF4.out HL4.out (by simp) (by left; decide) (by simp) (by omega) (by omega) exQ_all).mono ?_
  rintro e w4 ⟨rfl, hb4⟩
  have HB4 : Hid (Below w.heap.size w w4) := Lib.hid (HT4.out.trans (hb4.mono HT4.out.size))
  clear hb4 HT4 HQ4
  have HT5 : Hid (Below w.heap.size w (w4.alloc (.cells #[.int .i64 0, .int .i64 2] 3))) := Lib.hid (HB4.out.alloc HB4.out.size _)
  have HV5 : Hid (IsInts (w4.heap.size + 1) (w4.alloc (.cells #[.int .i64 0, .int .i64 2] 3)) (.slice (some ⟨w4.heap.size, 0, none⟩) 2 2) [0, 2]) := Lib.hid (litInts rfl (by decide) (by omega) (by simp [I64]) (by omega) (Box.new w4 #[.int .i64 0, .int .i64 2] 3))
  go_wp2_with fail
  refine (lawunknown_any _ _ ⟨_, _, _, rfl⟩).mono ?_
  rintro e w5 ⟨rfl, hb5⟩
  have HB5 : Hid (Below w.heap.size w w5) := Lib.hid (HT5.out.trans (hb5.mono HT5.out.size))
  have HU5 : Hid (IsInts w5.heap.size w5 (.slice (some ⟨w4.heap.size, 0, none⟩) 2 2) [0, 2]) := Lib.hid ((HV5.out.below hb5 (by simp)).mono (by have := hb5.size; simpa using this))
  have HI5 : Hid (Below (w4.heap.size + 1) (w4.alloc (.cells #[.int .i64 0, .int .i64 2] 3)) w5) := Lib.hid (by simpa using hb5)
  clear hb5 HT5
  have HT6 : Hid (Below w.heap.size w ((w5.alloc (.cells #[.slice (some ⟨w4.heap.size, 0, none⟩) 2 2, .bool false, .slice none 0 0] 45)).alloc (.cells #[.int .i64 0] 3))) := Lib.hid (((HB5.out.alloc (by have := HB5.out.size; simp; omega) _).alloc (by have := HB5.out.size; simp; omega) _))
  have HQ6 : Hid (Below w5.heap.size w5 ((w5.alloc (.cells #[.slice (some ⟨w4.heap.size, 0, none⟩) 2 2, .bool false, .slice none 0 0] 45)).alloc (.cells #[.int .i64 0] 3))) := Lib.hid (((Below.refl w5.heap.size w5).alloc (by simp; try omega) _).alloc (by simp; try omega) _)
  have HF6 : Hid (IsFlow (w5.heap.size + 1 + 1) ((w5.alloc (.cells #[.slice (some ⟨w4.heap.size, 0, none⟩) 2 2, .bool false, .slice none 0 0] 45)).alloc (.cells #[.int .i64 0] 3)) (.int .i64 3) (.slice (some ⟨w5.heap.size, 0, none⟩) 1 1) exR) := Lib.hid ⟨rfl, by simp [exR, I64], oneLot ((Box.new w5 #[.slice (some ⟨w4.heap.size, 0, none⟩) 2 2, .bool false, .slice none 0 0] 45).alloc _) (by omega) ((HU5.out.below HQ6.out (Nat.le_refl _)).mono (by omega)) noInts⟩
  have HL6 : Hid (IsInts (w5.heap.size + 1 + 1) ((w5.alloc (.cells #[.slice (some ⟨w4.heap.size, 0, none⟩) 2 2, .bool false, .slice none 0 0] 45)).alloc (.cells #[.int .i64 0] 3)) (.slice (some ⟨w5.heap.size + 1, 0, none⟩) 1 1) [0]) := Lib.hid (litInts (b := w5.heap.size + 1) (cap := 1) rfl (by decide) (by omega) (by simp [I64]) (by omega) (by have h := Box.new (w5.alloc (.cells #[.slice (some ⟨w4.heap.size, 0, none⟩) 2 2, .bool false, .slice none 0 0] 45)) #[.int .i64 0] 3; simpa using h))
  go_wp2_with fail
  refine (isall_any (w5.heap.size + 1 + 1) _ _ _ _ exR 2 2 [0] HF6.out HL6.out (by simp) (by left; decide) (by simp) (by omega) (by omega) exR_all).mono ?_
  rintro e w6 ⟨rfl, hb6⟩
  have HB6 : Hid (Below w.heap.size w w6) := Lib.hid (HT6.out.trans (hb6.mono HT6.out.size))
  clear hb6 HT6 HQ6
  have HT7 : Hid (Below w.heap.size w (w6.alloc (.cells #[.int .i64 0, .int .i64 1, .int .i64 2, .int .i64 3] 3))) := Lib.hid (HB6.out.alloc HB6.out.size _)
  have HV7 : Hid (IsInts (w6.heap.size + 1) (w6.alloc (.cells #[.int .i64 0, .int .i64 1, .int .i64 2, .int .i64 3] 3)) (.slice (some ⟨w6.heap.size, 0, none⟩) 4 4) [0, 1, 2, 3]) := Lib.hid (litInts rfl (by decide) (by omega) (by simp [I64]) (by omega) (Box.new w6 #[.int .i64 0, .int .i64 1, .int .i64 2, .int .i64 3] 3))
  go_wp2_with fail
  refine (lawunknown_any _ _ ⟨_, _, _, rfl⟩).mono ?_
  rintro e w7 ⟨rfl, hb7⟩
  have HB7 : Hid (Below w.heap.size w w7) := Lib.hid (HT7.out.trans (hb7.mono HT7.out.size))
  have HU7 : Hid (IsInts w7.heap.size w7 (.slice (some ⟨w6.heap.size, 0, none⟩) 4 4) [0, 1, 2, 3]) := Lib.hid ((HV7.out.below hb7 (by simp)).mono (by have := hb7.size; simpa using this))
  have HI7 : Hid (Below (w6.heap.size + 1) (w6.alloc (.cells #[.int .i64 0, .int .i64 1, .int .i64 2, .int .i64 3] 3)) w7) := Lib.hid (by simpa using hb7)
  clear hb7 HT7
  have HT8 : Hid (Below w.heap.size w ((w7.alloc (.cells #[.slice (some ⟨w6.heap.size, 0, none⟩) 4 4, .bool false, .slice none 0 0] 45)).alloc (.cells #[.int .i64 0] 3))) := Lib.hid (((HB7.out.alloc (by have := HB7.out.size; simp; omega) _).alloc (by have := HB7.out.size; simp; omega) _))
  have HQ8 : Hid (Below w7.heap.size w7 ((w7.alloc (.cells #[.slice (some ⟨w6.heap.size, 0, none⟩) 4 4, .bool false, .slice none 0 0] 45)).alloc (.cells #[.int .i64 0] 3))) := Lib.hid (((Below.refl w7.heap.size w7).alloc (by simp; try omega) _).alloc (by simp; try omega) _)
  have HF8 : Hid (IsFlow (w7.heap.size + 1 + 1) ((w7.alloc (.cells #[.slice (some ⟨w6.heap.size, 0, none⟩) 4 4, .bool false, .slice none 0 0] 45)).alloc (.cells #[.int .i64 0] 3)) (.int .i64 4) (.slice (some ⟨w7.heap.size, 0, none⟩) 1 1) exS) := Lib.hid ⟨rfl, by simp [exS, I64], oneLot ((Box.new w7 #[.slice (some ⟨w6.heap.size, 0, none⟩) 4 4, .bool false, .slice none 0 0] 45).alloc _) (by omega) ((HU7.out.below HQ8.out (Nat.le_refl _)).mono (by omega)) noInts⟩
  have HL8 : Hid (IsInts (w7.heap.size + 1 + 1) ((w7.alloc (.cells #[.slice (some ⟨w6.heap.size, 0, none⟩) 4 4, .bool false, .slice none 0 0] 45)).alloc (.cells #[.int .i64 0] 3)) (.slice (some ⟨w7.heap.size + 1, 0, none⟩) 1 1) [0]) := Lib.hid (litInts (b := w7.heap.size + 1) (cap := 1) rfl (by decide) (by omega) (by simp [I64]) (by omega) (by have h := Box.new (w7.alloc (.cells #[.slice (some ⟨w6.heap.size, 0, none⟩) 4 4, .bool false, .slice none 0 0] 45)) #[.int .i64 0] 3; simpa using h))
  go_wp2_with fail
  refine (isall_any (w7.heap.size + 1 + 1) _ _ _ _ exS 24 24 [0] HF8.out HL8.out (by simp) (by left; decide) (by simp) (by omega) (by omega) exS_all).mono ?_
  rintro e w8 ⟨rfl, hb8⟩
  have HB8 : Hid (Below w.heap.size w w8) := Lib.hid (HT8.out.trans (hb8.mono HT8.out.size))
  clear hb8 HT8 HQ8
  have HT9 : Hid (Below w.heap.size w (w8.alloc (.cells #[.int .i64 0, .int .i64 1] 3))) := Lib.hid (HB8.out.alloc HB8.out.size _)
  have HV9 : Hid (IsInts (w8.heap.size + 1) (w8.alloc (.cells #[.int .i64 0, .int .i64 1] 3)) (.slice (some ⟨w8.heap.size, 0, none⟩) 2 2) [0, 1]) := Lib.hid (litInts rfl (by decide) (by omega) (by simp [I64]) (by omega) (Box.new w8 #[.int .i64 0, .int .i64 1] 3))
  go_wp2_with fail
  refine (lawunknown_any _ _ ⟨_, _, _, rfl⟩).mono ?_
  rintro e w9 ⟨rfl, hb9⟩
  have HB9 : Hid (Below w.heap.size w w9) := Lib.hid (HT9.out.trans (hb9.mono HT9.out.size))
  have HU9 : Hid (IsInts w9.heap.size w9 (.slice (some ⟨w8.heap.size, 0, none⟩) 2 2) [0, 1]) := Lib.hid ((HV9.out.below hb9 (by simp)).mono (by have := hb9.size; simpa using this))
  have HI9 : Hid (Below (w8.heap.size + 1) (w8.alloc (.cells #[.int .i64 0, .int .i64 1] 3)) w9) := Lib.hid (by simpa using hb9)
  clear hb9 HT9
  have HT10 : Hid (Below w.heap.size w (w9.alloc (.cells #[.int .i64 2, .int .i64 3] 3))) := Lib.hid (HB9.out.alloc HB9.out.size _)
  have HV10 : Hid (IsInts (w9.heap.size + 1) (w9.alloc (.cells #[.int .i64 2, .int .i64 3] 3)) (.slice (some ⟨w9.heap.size, 0, none⟩) 2 2) [2, 3]) := Lib.hid (litInts rfl (by decide) (by omega) (by simp [I64]) (by omega) (Box.new w9 #[.int .i64 2, .int .i64 3] 3))
  go_wp2_with fail
  refine (lawunknown_any _ _ ⟨_, _, _, rfl⟩).mono ?_
  rintro e w10 ⟨rfl, hb10⟩
  have HB10 : Hid (Below w.heap.size w w10) := Lib.hid (HT10.out.trans (hb10.mono HT10.out.size))
  have HU10 : Hid (IsInts w10.heap.size w10 (.slice (some ⟨w9.heap.size, 0, none⟩) 2 2) [2, 3]) := Lib.hid ((HV10.out.below hb10 (by simp)).mono (by have := hb10.size; simpa using this))
  have HI10 : Hid (Below (w9.heap.size + 1) (w9.alloc (.cells #[.int .i64 2, .int .i64 3] 3)) w10) := Lib.hid (by simpa using hb10)
  clear hb10 HT10
  have HU9b : Hid (IsInts w10.heap.size w10 (.slice (some ⟨w8.heap.size, 0, none⟩) 2 2) [0, 1]) := Lib.hid (((HU9.out.below (box_below' w9 (.cells #[.int .i64 2, .int .i64 3] 3)) (Nat.le_refl _)).below HI10.out (by omega)).mono (by have := HI10.out.size; simp at this; omega))
  have HT11 : Hid (Below w.heap.size w ((w10.alloc (.cells #[.slice (some ⟨w8.heap.size, 0, none⟩) 2 2, .bool false, .slice none 0 0, .slice (some ⟨w9.heap.size, 0, none⟩) 2 2, .bool false, .slice none 0 0] 45)).alloc (.cells #[.int .i64 0, .int .i64 1] 3))) := Lib.hid (((HB10.out.alloc (by have := HB10.out.size; simp; omega) _).alloc (by have := HB10.out.size; simp; omega) _))
  have HQ11 : Hid (Below w10.heap.size w10 ((w10.alloc (.cells #[.slice (some ⟨w8.heap.size, 0, none⟩) 2 2, .bool false, .slice none 0 0, .slice (some ⟨w9.heap.size, 0, none⟩) 2 2, .bool false, .slice none 0 0] 45)).alloc (.cells #[.int .i64 0, .int .i64 1] 3))) := Lib.hid (((Below.refl w10.heap.size w10).alloc (by simp; try omega) _).alloc (by simp; try omega) _)
  have HF11 : Hid (IsFlow (w10.heap.size + 1 + 1) ((w10.alloc (.cells #[.slice (some ⟨w8.heap.size, 0, none⟩) 2 2, .bool false, .slice none 0 0, .slice (some ⟨w9.heap.size, 0, none⟩) 2 2, .bool false, .slice none 0 0] 45)).alloc (.cells #[.int .i64 0, .int .i64 1] 3)) (.int .i64 4) (.slice (some ⟨w10.heap.size, 0, none⟩) 2 2) exT) := Lib.hid ⟨rfl, by simp [exT, I64], twoLots ((Box.new w10 #[.slice (some ⟨w8.heap.size, 0, none⟩) 2 2, .bool false, .slice none 0 0, .slice (some ⟨w9.heap.size, 0, none⟩) 2 2, .bool false, .slice none 0 0] 45).alloc _) (by omega) ((HU9b.out.below HQ11.out (Nat.le_refl _)).mono (by omega)) noInts ((HU10.out.below HQ11.out (Nat.le_refl _)).mono (by omega)) noInts⟩
  have HL11 : Hid (IsInts (w10.heap.size + 1 + 1) ((w10.alloc (.cells #[.slice (some ⟨w8.heap.size, 0, none⟩) 2 2, .bool false, .slice none 0 0, .slice (some ⟨w9.heap.size, 0, none⟩) 2 2, .bool false, .slice none 0 0] 45)).alloc (.cells #[.int .i64 0, .int .i64 1] 3)) (.slice (some ⟨w10.heap.size + 1, 0, none⟩) 2 2) [0, 1]) := Lib.hid (litInts (b := w10.heap.size + 1) (cap := 2) rfl (by decide) (by omega) (by simp [I64]) (by omega) (by have h := Box.new (w10.alloc (.cells #[.slice (some ⟨w8.heap.size, 0, none⟩) 2 2, .bool false, .slice none 0 0, .slice (some ⟨w9.heap.size, 0, none⟩) 2 2, .bool false, .slice none 0 0] 45)) #[.int .i64 0, .int .i64 1] 3; simpa using h))
  go_wp2_with fail
  refine (isall_any (w10.heap.size + 1 + 1) _ _ _ _ exT 4 4 [0, 1] HF11.out HL11.out (by simp) (by left; decide) (by simp) (by omega) (by omega) exT_all).mono ?_
  rintro e w11 ⟨rfl, hb11⟩
  have HB11 : Hid (Below w.heap.size w w11) := Lib.hid (HT11.out.trans (hb11.mono HT11.out.size))
  clear hb11 HT11 HQ11
  have HT12 : Hid (Below w.heap.size w (w11.alloc (.cells #[.int .i64 0, .int .i64 1, .int .i64 2] 3))) := Lib.hid (HB11.out.alloc HB11.out.size _)
  have HV12 : Hid (IsInts (w11.heap.size + 1) (w11.alloc (.cells #[.int .i64 0, .int .i64 1, .int .i64 2] 3)) (.slice (some ⟨w11.heap.size, 0, none⟩) 3 3) [0, 1, 2]) := Lib.hid (litInts rfl (by decide) (by omega) (by simp [I64]) (by omega) (Box.new w11 #[.int .i64 0, .int .i64 1, .int .i64 2] 3))
  go_wp2_with fail
  refine (lawunknown_any _ _ ⟨_, _, _, rfl⟩).mono ?_
  rintro e w12 ⟨rfl, hb12⟩
  have HB12 : Hid (Below w.heap.size w w12) := Lib.hid (HT12.out.trans (hb12.mono HT12.out.size))
  have HU12 : Hid (IsInts w12.heap.size w12 (.slice (some ⟨w11.heap.size, 0, none⟩) 3 3) [0, 1, 2]) := Lib.hid ((HV12.out.below hb12 (by simp)).mono (by have := hb12.size; simpa using this))
  have HI12 : Hid (Below (w11.heap.size + 1) (w11.alloc (.cells #[.int .i64 0, .int .i64 1, .int .i64 2] 3)) w12) := Lib.hid (by simpa using hb12)
  clear hb12 HT12
  have HT13 : Hid (Below w.heap.size w (w12.alloc (.cells #[.int .i64 3, .int .i64 4, .int .i64 5] 3))) := Lib.hid (HB12.out.alloc HB12.out.size _)
  have HV13 : Hid (IsInts (w12.heap.size + 1) (w12.alloc (.cells #[.int .i64 3, .int .i64 4, .int .i64 5] 3)) (.slice (some ⟨w12.heap.size, 0, none⟩) 3 3) [3, 4, 5]) := Lib.hid (litInts rfl (by decide) (by omega) (by simp [I64]) (by omega) (Box.new w12 #[.int .i64 3, .int .i64 4, .int .i64 5] 3))
  go_wp2_with fail
  refine (lawunknown_any _ _ ⟨_, _, _, rfl⟩).mono ?_
  rintro e w13 ⟨rfl, hb13⟩
  have HB13 : Hid (Below w.heap.size w w13) := Lib.hid (HT13.out.trans (hb13.mono HT13.out.size))
  have HU13 : Hid (IsInts w13.heap.size w13 (.slice (some ⟨w12.heap.size, 0, none⟩) 3 3) [3, 4, 5]) := Lib.hid ((HV13.out.below hb13 (by simp)).mono (by have := hb13.size; simpa using this))
  have HI13 : Hid (Below (w12.heap.size + 1) (w12.alloc (.cells #[.int .i64 3, .int .i64 4, .int .i64 5] 3)) w13) := Lib.hid (by simpa using hb13)
  clear hb13 HT13
  have HU12b : Hid (IsInts w13.heap.size w13 (.slice (some ⟨w11.heap.size, 0, none⟩) 3 3) [0, 1, 2]) := Lib.hid (((HU12.out.below (box_below' w12 (.cells #[.int .i64 3, .int .i64 4, .int .i64 5] 3)) (Nat.le_refl _)).below HI13.out (by omega)).mono (by have := HI13.out.size; simp at this; omega))
  have HT14 : Hid (Below w.heap.size w ((w13.alloc (.cells #[.slice (some ⟨w11.heap.size, 0, none⟩) 3 3, .bool false, .slice none 0 0, .slice (some ⟨w12.heap.size, 0, none⟩) 3 3, .bool false, .slice none 0 0] 45)).alloc (.cells #[.int .i64 1] 3))) := Lib.hid (((HB13.out.alloc (by have := HB13.out.size; simp; omega) _).alloc (by have := HB13.out.size; simp; omega) _))
  have HQ14 : Hid (Below w13.heap.size w13 ((w13.alloc (.cells #[.slice (some ⟨w11.heap.size, 0, none⟩) 3 3, .bool false, .slice none 0 0, .slice (some ⟨w12.heap.size, 0, none⟩) 3 3, .bool false, .slice none 0 0] 45)).alloc (.cells #[.int .i64 1] 3))) := Lib.hid (((Below.refl w13.heap.size w13).alloc (by simp; try omega) _).alloc (by simp; try omega) _)
  have HF14 : Hid (IsFlow (w13.heap.size + 1 + 1) ((w13.alloc (.cells #[.slice (some ⟨w11.heap.size, 0, none⟩) 3 3, .bool false, .slice none 0 0, .slice (some ⟨w12.heap.size, 0, none⟩) 3 3, .bool false, .slice none 0 0] 45)).alloc (.cells #[.int .i64 1] 3)) (.int .i64 3) (.slice (some ⟨w13.heap.size, 0, none⟩) 2 2) exU) := Lib.hid ⟨rfl, by simp [exU, I64], twoLots ((Box.new w13 #[.slice (some ⟨w11.heap.size, 0, none⟩) 3 3, .bool false, .slice none 0 0, .slice (some ⟨w12.heap.size, 0, none⟩) 3 3, .bool false, .slice none 0 0] 45).alloc _) (by omega) ((HU12b.out.below HQ14.out (Nat.le_refl _)).mono (by omega)) noInts ((HU13.out.below HQ14.out (Nat.le_refl _)).mono (by omega)) noInts⟩
  have HL14 : Hid (IsInts (w13.heap.size + 1 + 1) ((w13.alloc (.cells #[.slice (some ⟨w11.heap.size, 0, none⟩) 3 3, .bool false, .slice none 0 0, .slice (some ⟨w12.heap.size, 0, none⟩) 3 3, .bool false, .slice none 0 0] 45)).alloc (.cells #[.int .i64 1] 3)) (.slice (some ⟨w13.heap.size + 1, 0, none⟩) 1 1) [1]) := Lib.hid (litInts (b := w13.heap.size + 1) (cap := 1) rfl (by decide) (by omega) (by simp [I64]) (by omega) (by have h := Box.new (w13.alloc (.cells #[.slice (some ⟨w11.heap.size, 0, none⟩) 3 3, .bool false, .slice none 0 0, .slice (some ⟨w12.heap.size, 0, none⟩) 3 3, .bool false, .slice none 0 0] 45)) #[.int .i64 1] 3; simpa using h))
  go_wp2_with fail
  refine (isall_any (w13.heap.size + 1 + 1) _ _ _ _ exU 6 6 [1] HF14.out HL14.out (by simp) (by left; decide) (by simp) (by omega) (by omega) exU_all).mono ?_
  rintro e w14 ⟨rfl, hb14⟩
  have HB14 : Hid (Below w.heap.size w w14) := Lib.hid (HT14.out.trans (hb14.mono HT14.out.size))
  clear hb14 HT14 HQ14
  go_wp2
  go_ret
  exact ⟨rfl, HB14.out⟩

end Go.Proofs.Ytndcbnnbgedgcaa

/-
  Layer 28, in plain Lean: a flow with one lot more; the ways.
-/
set_option linter.unusedVariables false
set_option linter.unusedSimpArgs false
namespace Go.Proofs.Ytndcbnnbgedgcaa

theorem sum_mono {g h : Int → Int} : ∀ {l : List Int}, (∀ x ∈ l, g x ≤ h x) → (l.map g).sum ≤ (l.map h).sum
  | [], _ => by simp
  | a :: t, hx => by
    have h1 := hx a (by simp)
    have h2 := sum_mono (l := t) (fun x hx' => hx x (by simp [hx']))
    simp only [List.map_cons, List.sum_cons]
    omega
theorem sum_nn {h : Int → Int} : ∀ {l : List Int}, (∀ x ∈ l, 0 ≤ h x) → 0 ≤ (l.map h).sum
  | [], _ => by simp
  | a :: t, hx => by
    have h1 := hx a (by simp)
    have h2 := sum_nn (l := t) (fun x hx' => hx x (by simp [hx']))
    simp only [List.map_cons, List.sum_cons]
    omega
theorem sum_sub {h : Int → Int} : ∀ {l m : List Int}, l.Nodup → (∀ x ∈ l, x ∈ m) → (∀ x ∈ m, 0 ≤ h x) → (l.map h).sum ≤ (m.map h).sum
  | [], m, _, _, h0 => by simpa using sum_nn h0
  | a :: t, m, hn, hs, h0 => by
    obtain ⟨m1, m2, rfl⟩ := List.append_of_mem (hs a (by simp))
    have ih := sum_sub (h := h) (l := t) (m := m1 ++ m2) (List.nodup_cons.1 hn).2 (fun x hx => by
      have h1 := hs x (by simp [hx])
      have h2 : x ≠ a := fun e => (List.nodup_cons.1 hn).1 (e ▸ hx)
      simp only [List.mem_append, List.mem_cons] at h1 ⊢
      rcases h1 with h1 | h1 | h1
      · exact Or.inl h1
      · exact absurd h1 h2
      · exact Or.inr h1) (fun x hx => h0 x (by
        simp only [List.mem_append, List.mem_cons] at hx ⊢
        rcases hx with hx | hx
        · exact Or.inl hx
        · exact Or.inr (Or.inr hx)))
    simp only [List.map_cons, List.sum_cons, List.map_append, List.sum_append] at ih ⊢
    omega
theorem waysS_nn : ∀ (rows : List (List Int)) (used : List Int), 0 ≤ waysS rows used
  | [], _ => by simp [waysS]
  | r :: rs, used => by
    simp only [waysS]
    refine sum_nn fun x _ => ?_
    split
    · omega
    · exact waysS_nn rs _
/-- the rows on the right hold at least what τ makes of the rows on the left -/
def RowsLe (τ : Int → Int) (S : Int → Prop) : List (List Int) → List (List Int) → Prop
  | [], [] => True
  | r :: rs, r' :: rs' => r.Nodup ∧ (∀ x ∈ r, S x ∧ τ x ∈ r') ∧ RowsLe τ S rs rs'
  | _, _ => False
theorem RowsLe.snoc {τ : Int → Int} {S : Int → Prop} {r r' : List Int} (hr : r.Nodup ∧ ∀ x ∈ r, S x ∧ τ x ∈ r') : ∀ {A A' : List (List Int)}, RowsLe τ S A A' → RowsLe τ S (A ++ [r]) (A' ++ [r'])
  | [], [], _ => ⟨hr.1, hr.2, trivial⟩
  | a :: t, a' :: t', h => ⟨h.1, h.2.1, RowsLe.snoc hr h.2.2⟩
  | [], _ :: _, h => by cases h
  | _ :: _, [], h => by cases h
theorem map_nodup {τ : Int → Int} {S : Int → Prop} (hτ : ∀ x y, S x → S y → τ x = τ y → x = y) : ∀ {r : List Int}, r.Nodup → (∀ x ∈ r, S x) → (r.map τ).Nodup
  | [], _, _ => by simp
  | a :: t, hn, hs => by
    have h := List.nodup_cons.1 hn
    simp only [List.map_cons, List.nodup_cons]
    refine ⟨fun hm => ?_, map_nodup hτ h.2 (fun x hx => hs x (by simp [hx]))⟩
    obtain ⟨y, hy, e⟩ := List.mem_map.1 hm
    exact h.1 ((hτ y a (hs y (by simp [hy])) (hs a (by simp)) e) ▸ hy)
theorem waysS_map_le {τ : Int → Int} {S : Int → Prop} (hτ : ∀ x y, S x → S y → τ x = τ y → x = y) : ∀ (rows rows' : List (List Int)) (used : List Int), RowsLe τ S rows rows' → (∀ x ∈ used, S x) → waysS rows used ≤ waysS rows' (used.map τ)
  | [], [], _, _, _ => by simp [waysS]
  | [], _ :: _, _, h, _ => by cases h
  | _ :: _, [], _, h, _ => by cases h
  | r :: rs, r' :: rs', used, h, hu => by
    simp only [waysS]
    have h1 : (r.map fun x => if hasB used x then 0 else waysS rs (used ++ [x])).sum ≤ (r.map fun x => if hasB (used.map τ) (τ x) then 0 else waysS rs' (used.map τ ++ [τ x])).sum := sum_mono fun x hx => by
      have hsx := (h.2.1 x hx).1
      have e : hasB (used.map τ) (τ x) = hasB used x := by
        rw [Bool.eq_iff_iff, hasB_iff, hasB_iff]
        constructor
        · intro hm
          obtain ⟨y, hy, e⟩ := List.mem_map.1 hm
          exact (hτ y x (hu y hy) hsx e) ▸ hy
        · exact fun hm => List.mem_map.2 ⟨x, hm, rfl⟩
      rw [e]
      split
      · omega
      · have ih := waysS_map_le hτ rs rs' (used ++ [x]) h.2.2 (fun y hy => by
          rcases List.mem_append.1 hy with hy | hy
          · exact hu y hy
          · simp at hy; exact hy ▸ hsx)
        simpa using ih
    refine Int.le_trans h1 ?_
    have h2 := sum_sub (h := fun y => if hasB (used.map τ) y then 0 else waysS rs' (used.map τ ++ [y])) (l := r.map τ) (m := r') (map_nodup hτ h.1 (fun x hx => (h.2.1 x hx).1)) (fun y hy => by
      obtain ⟨x, hx, rfl⟩ := List.mem_map.1 hy
      exact (h.2.1 x hx).2) (fun y _ => by
        show 0 ≤ (if hasB (used.map τ) y then 0 else waysS rs' (used.map τ ++ [y]))
        split
        · omega
        · exact waysS_nn _ _)
    rw [List.map_map] at h2
    exact h2

/-! ### the ways of a flow with one lot more -/
theorem ext_beforeI (f : Flow) (x : Lot) : beforeI (extF f x) (f.lots.length + 1) = beforeI f f.lots.length + x.ins.length := by simp only [beforeI, ext_at, beforeI_ext f x (Nat.le_refl _)]
/-- where an out of the last lot lies -/
def outI (x : Lot) (j : Nat) : Int := if x.known then nth x.perm j else j
def moveT (f : Flow) (x : Lot) (y : Int) : Int := if hasB x.ins y then beforeI f f.lots.length + outI x (x.ins.idxOf y) else y
def EndOf (f : Flow) (y : Int) : Prop := 0 ≤ y ∧ y < beforeI f f.lots.length ∧ goneB f y f.lots.length = false
theorem outI_facts {f : Flow} {x : Lot} (hl : lotsB (extF f x) (f.lots.length + 1) = true) : (∀ j, j < x.ins.length → 0 ≤ outI x j ∧ outI x j < x.ins.length) ∧ (∀ i j, i < x.ins.length → j < x.ins.length → outI x i = outI x j → i = j) := by
  have hf := lotB_facts (f := extF f x) (k := f.lots.length) (by simp only [lotsB, Bool.and_eq_true] at hl; exact hl.2)
  rw [ext_at] at hf
  obtain ⟨g1, g2, g3⟩ := hf
  unfold outI
  cases hk : x.known
  · simp only [Bool.false_eq_true, if_false]
    exact ⟨fun j hj => by omega, fun i j _ _ e => by omega⟩
  · have hp := g3 hk
    simp only [if_true]
    exact ⟨fun j hj => hp.2.2 _ (nth_mem (by rw [hp.1]; exact hj)), fun i j hi hj e => nth_inj hp.2.1 (by rw [hp.1]; exact hi) (by rw [hp.1]; exact hj) e⟩
theorem moveT_inj {f : Flow} {x : Lot} (hl : lotsB (extF f x) (f.lots.length + 1) = true) (a b : Int) (ha : EndOf f a) (hb : EndOf f b) (e : moveT f x a = moveT f x b) : a = b := by
  obtain ⟨o1, o2⟩ := outI_facts hl
  unfold moveT at e
  unfold EndOf at ha hb
  cases h1 : hasB x.ins a <;> cases h2 : hasB x.ins b <;> simp only [h1, h2, if_true, Bool.false_eq_true, if_false] at e
  · exact e
  · have hb2 := nth_idx (hasB_iff.1 h2)
    have := o1 _ hb2.1
    omega
  · have hb2 := nth_idx (hasB_iff.1 h1)
    have := o1 _ hb2.1
    omega
  · have ha2 := nth_idx (hasB_iff.1 h1)
    have hb2 := nth_idx (hasB_iff.1 h2)
    have := o2 _ _ ha2.1 hb2.1 (by omega)
    rw [← ha2.2, ← hb2.2, this]
theorem moveT_mem {f : Flow} {x : Lot} {s y : Int} (hl : lotsB (extF f x) (f.lots.length + 1) = true) (hb : 0 ≤ beforeI f f.lots.length) (hy : y ∈ reachL f s) : moveT f x y ∈ reachL (extF f x) s := by
  obtain ⟨o1, o2⟩ := outI_facts hl
  have hr := (reachL_mem f s y).1 hy
  unfold moveT
  cases h1 : hasB x.ins y
  · simp only [Bool.false_eq_true, if_false]
    rw [ext_mem]
    exact ⟨hr.1, by omega, hr.2.2.1, (fun hm => by rw [hasB_iff.2 hm] at h1; cases h1), Or.inl hr.2.2.2⟩
  · simp only [if_true]
    have hm := hasB_iff.1 h1
    have hi := nth_idx hm
    have ho := o1 _ hi.1
    rw [ext_mem]
    have hg : goneB (extF f x) (beforeI f f.lots.length + outI x (x.ins.idxOf y)) (f.lots.length + 1) = false := goneB_new hl (by simp only [Nat.add_sub_cancel]; rw [beforeI_ext f x (Nat.le_refl _)]; omega)
    simp only [goneB, ext_at, goneB_ext f x _ (Nat.le_refl _), Bool.or_eq_false_iff] at hg
    refine ⟨by omega, by omega, hg.1, fun hm => ?_, Or.inr ⟨(outI x (x.ins.idxOf y)).toNat, by omega, by omega, ?_⟩⟩
    · have := hasB_iff.2 hm; rw [hg.2] at this; cases this
    · rw [canTo_iff]
      refine ⟨x.ins.idxOf y, hi.1, by rw [hi.2]; exact hr.2.2.2, fun h => ?_⟩
      unfold outI at ho ⊢
      rw [h] at ho ⊢
      simp only [if_true] at ho ⊢
      omega
theorem rows_le {f : Flow} {x : Lot} (hl : lotsB (extF f x) (f.lots.length + 1) = true) (hb : 0 ≤ beforeI f f.lots.length) : ∀ m, RowsLe (moveT f x) (EndOf f) (matTo f m) (matTo (extF f x) m)
  | 0 => trivial
  | m + 1 => RowsLe.snoc ⟨reachL_nodup _ _, fun y hy => ⟨by have h := (reachL_mem f _ y).1 hy; exact ⟨h.1, h.2.1, h.2.2.1⟩, moveT_mem hl hb hy⟩⟩ (rows_le hl hb m)
/-- one lot more: not fewer ways -/
theorem ways_le {f : Flow} {x : Lot} (hl : lotsB (extF f x) (f.lots.length + 1) = true) (hb : 0 ≤ beforeI f f.lots.length) : waysS (rowsOf f) [] ≤ waysS (rowsOf (extF f x)) [] :=
  waysS_map_le (moveT_inj hl) _ _ [] (rows_le hl hb _) (fun y hy => by cases hy)

end Go.Proofs.Ytndcbnnbgedgcaa

/-
  Layer 28, in plain Lean: a flow with one known lot more.
-/
set_option linter.unusedVariables false
set_option linter.unusedSimpArgs false
namespace Go.Proofs.Ytndcbnnbgedgcaa

def backT (f : Flow) (x : Lot) (y : Int) : Int := if y < beforeI f f.lots.length then y else nth x.ins (x.perm.idxOf (y - beforeI f f.lots.length))
def OwnEnd (f : Flow) (x : Lot) (y : Int) : Prop := ∃ s, 0 ≤ s ∧ s < f.senders ∧ y ∈ reachL (extF f x) s
theorem known_each {f : Flow} {x : Lot} {s : Int} (h0 : 0 ≤ s) (h1 : s < f.senders) (hl : lotsB (extF f x) (f.lots.length + 1) = true) (hk : x.known = true) :
    ∀ y ∈ reachL (extF f x) s, ¬ y < beforeI f f.lots.length → ∃ i j : Nat, i < x.ins.length ∧ j < x.ins.length ∧ y = beforeI f f.lots.length + i ∧ nth x.ins j ∈ spotsTo f s f.lots.length ∧ nth x.perm j = i ∧ x.perm.idxOf (y - beforeI f f.lots.length) = j := by
  have hf := lotB_facts (f := extF f x) (k := f.lots.length) (by simp only [lotsB, Bool.and_eq_true] at hl; exact hl.2)
  rw [ext_at, beforeI_ext f x (Nat.le_refl _)] at hf
  obtain ⟨g1, g2, g3⟩ := hf
  have hp := g3 hk
  intro y hy hlt
  rw [ext_mem] at hy
  obtain ⟨a, b, c, d, e⟩ := hy
  rcases e with e | ⟨i, hi, rfl, hc⟩
  · exact absurd (spots_lt h0 h1 _ y e).2 hlt
  · rw [canTo_iff] at hc
    obtain ⟨j, hj, hs, hpj⟩ := hc
    have hm : nth x.perm j ∈ x.perm := nth_mem (by rw [hp.1]; exact hj)
    have hx := nth_idx hm
    have hij : x.perm.idxOf (nth x.perm j) = j := nth_inj hp.2.1 hx.1 (by rw [hp.1]; exact hj) hx.2
    refine ⟨i, j, hi, hj, rfl, hs, hpj hk, ?_⟩
    rw [show beforeI f f.lots.length + (i : Int) - beforeI f f.lots.length = nth x.perm j by rw [hpj hk]; omega]
    exact hij
theorem backT_inj {f : Flow} {x : Lot} (hl : lotsB (extF f x) (f.lots.length + 1) = true) (hk : x.known = true) (y z : Int) (hy : OwnEnd f x y) (hz : OwnEnd f x z) (e : backT f x y = backT f x z) : y = z := by
  obtain ⟨s, h0, h1, hy⟩ := hy
  obtain ⟨s', h0', h1', hz⟩ := hz
  have hf := lotB_facts (f := extF f x) (k := f.lots.length) (by simp only [lotsB, Bool.and_eq_true] at hl; exact hl.2)
  rw [ext_at, beforeI_ext f x (Nat.le_refl _)] at hf
  obtain ⟨g1, g2, g3⟩ := hf
  unfold backT at e
  by_cases hy1 : y < beforeI f f.lots.length <;> by_cases hz1 : z < beforeI f f.lots.length
  · simpa only [hy1, hz1, if_true] using e
  · obtain ⟨i, j, a1, a2, a3, a4, a5, a6⟩ := known_each h0' h1' hl hk z hz hz1
    simp only [hy1, hz1, if_true, if_false, a6] at e
    rw [ext_mem] at hy
    exact absurd (e ▸ nth_mem a2) hy.2.2.2.1
  · obtain ⟨i, j, a1, a2, a3, a4, a5, a6⟩ := known_each h0 h1 hl hk y hy hy1
    simp only [hy1, hz1, if_true, if_false, a6] at e
    rw [ext_mem] at hz
    exact absurd (e ▸ nth_mem a2) hz.2.2.2.1
  · obtain ⟨i, j, a1, a2, a3, a4, a5, a6⟩ := known_each h0 h1 hl hk y hy hy1
    obtain ⟨i', j', b1, b2, b3, b4, b5, b6⟩ := known_each h0' h1' hl hk z hz hz1
    simp only [hy1, hz1, if_false, a6, b6] at e
    have := nth_inj g1 a2 b2 e
    subst this
    omega
theorem backT_mem {f : Flow} {x : Lot} {s y : Int} (h0 : 0 ≤ s) (h1 : s < f.senders) (hl : lotsB (extF f x) (f.lots.length + 1) = true) (hk : x.known = true) (hy : y ∈ reachL (extF f x) s) : backT f x y ∈ reachL f s := by
  have hf := lotB_facts (f := extF f x) (k := f.lots.length) (by simp only [lotsB, Bool.and_eq_true] at hl; exact hl.2)
  rw [ext_at, beforeI_ext f x (Nat.le_refl _)] at hf
  obtain ⟨g1, g2, g3⟩ := hf
  unfold backT
  by_cases hy1 : y < beforeI f f.lots.length
  · simp only [hy1, if_true]
    have hy2 := hy
    rw [ext_mem] at hy2
    obtain ⟨a, b, c, d, e⟩ := hy2
    rw [reachL_mem]
    refine ⟨a, hy1, c, ?_⟩
    rcases e with e | ⟨i, hi, rfl, hc⟩
    · exact e
    · omega
  · obtain ⟨i, j, a1, a2, a3, a4, a5, a6⟩ := known_each h0 h1 hl hk y hy hy1
    simp only [hy1, if_false, a6]
    have := g2 _ (nth_mem a2)
    rw [goneB_ext f x _ (Nat.le_refl _)] at this
    rw [reachL_mem]
    exact ⟨this.1, this.2.1, this.2.2, a4⟩
theorem rows_back {f : Flow} {x : Lot} (hl : lotsB (extF f x) (f.lots.length + 1) = true) (hk : x.known = true) : ∀ m : Nat, (m : Int) ≤ f.senders → RowsLe (backT f x) (OwnEnd f x) (matTo (extF f x) m) (matTo f m)
  | 0, _ => trivial
  | m + 1, hm => RowsLe.snoc ⟨reachL_nodup _ _, fun y hy => ⟨⟨m, by omega, by omega, hy⟩, backT_mem (by omega) (by omega) hl hk hy⟩⟩ (rows_back hl hk m (by omega))
/-- a known lot more: as many ways -/
theorem ways_eq {f : Flow} {x : Lot} (hl : lotsB (extF f x) (f.lots.length + 1) = true) (hb : 0 ≤ beforeI f f.lots.length) (h0 : 0 ≤ f.senders) (hk : x.known = true) : waysS (rowsOf (extF f x)) [] = waysS (rowsOf f) [] := by
  have h1 := ways_le hl hb
  have h2 := waysS_map_le (backT_inj hl hk) _ _ [] (rows_back hl hk f.senders.toNat (by omega)) (fun y hy => by cases hy)
  have h3 : waysS (rowsOf (extF f x)) [] ≤ waysS (rowsOf f) [] := h2
  omega

/-! ### the lower bound of a flow with one known lot more -/
theorem ext_lot (f : Flow) (x : Lot) {k : Nat} (hk : k < f.lots.length) : lotAt (extF f x).lots k = lotAt f.lots k := by
  unfold lotAt extF
  simp [List.getD, List.getElem?_append_left hk]
theorem ext_spotAt (f : Flow) (x : Lot) (s : Int) : ∀ k, k ≤ f.lots.length → spotAt (extF f x) s k = spotAt f s k
  | 0, _ => rfl
  | k + 1, hk => by simp only [spotAt, ext_spotAt f x s k (by omega), ext_lot f x (show k < f.lots.length by omega), beforeI_ext f x (show k ≤ f.lots.length by omega)]
theorem ext_unkTo (f : Flow) (x : Lot) (s : Int) : ∀ k, k ≤ f.lots.length → unkTo (extF f x) s k = unkTo f s k
  | 0, _ => rfl
  | k + 1, hk => by simp only [unkTo, ext_unkTo f x s k (by omega), ext_spotAt f x s k (by omega), ext_lot f x (show k < f.lots.length by omega)]
theorem ext_unkI {f : Flow} {x : Lot} (hk : x.known = true) (s : Int) : unkI (extF f x) s = unkI f s := by
  unfold unkI
  rw [ext_len]
  simp only [unkTo, ext_unkTo f x s _ (Nat.le_refl _), ext_at, hk, Bool.not_true, Bool.and_false, Bool.false_eq_true, if_false]
  have := unkTo_lt f s f.lots.length
  split
  · rfl
  · omega
theorem ext_lastTo {f : Flow} {x : Lot} (hx : x.known = true) {k : Nat} (hk : k < f.lots.length) : ∀ i, lastTo (extF f x) k i = lastTo f k i
  | 0 => rfl
  | i + 1 => by simp only [lastTo, ext_lastTo hx hk i, ext_unkI hx, beforeI_ext f x (Nat.le_of_lt hk)]
theorem ext_comesTo {f : Flow} {x : Lot} (hx : x.known = true) (m : Nat) {k : Nat} (hk : k < f.lots.length) : ∀ i, comesTo (extF f x) m k i = comesTo f m k i
  | 0 => rfl
  | i + 1 => by simp only [comesTo, ext_comesTo hx m hk i, ext_unkI hx, beforeI_ext f x (Nat.le_of_lt hk)]
theorem ext_hitTo {f : Flow} {x : Lot} (hx : x.known = true) (m : Nat) : ∀ k, k ≤ f.lots.length → hitTo (extF f x) m k = hitTo f m k
  | 0, _ => rfl
  | k + 1, hk => by simp only [hitTo, ext_hitTo (f := f) hx m k (Nat.le_of_succ_le hk), ext_lot f x (show k < f.lots.length by omega), ext_comesTo hx m (show k < f.lots.length by omega)]
theorem ext_lastL {f : Flow} {x : Lot} (hx : x.known = true) : ∀ k, k ≤ f.lots.length → lastL (extF f x) k = lastL f k
  | 0, _ => rfl
  | k + 1, hk => by
    have hc : (!(lotAt (extF f x).lots k).known && lastB (extF f x) k) = (!(lotAt f.lots k).known && lastB f k) := by
      simp only [lastB, ext_lot f x (show k < f.lots.length by omega), ext_lastTo hx (show k < f.lots.length by omega)]
    simp only [lastL]
    rw [hc, ext_lastL (f := f) hx k (Nat.le_of_succ_le hk)]
theorem ext_firstL {f : Flow} {x : Lot} (hx : x.known = true) : ∀ k, k ≤ f.lots.length → firstL (extF f x) k = firstL f k
  | 0, _ => rfl
  | k + 1, hk => by
    have hc : (!(lotAt (extF f x).lots k).known && firstB (extF f x) k) = (!(lotAt f.lots k).known && firstB f k) := by
      simp only [firstB, ext_lot f x (show k < f.lots.length by omega), ext_hitTo (f := f) hx k k (Nat.le_of_succ_le hk)]
    simp only [firstL]
    rw [hc, ext_firstL (f := f) hx k (Nat.le_of_succ_le hk)]
theorem ext_lastL' {f : Flow} {x : Lot} (hx : x.known = true) : lastL (extF f x) (extF f x).lots.length = lastL f f.lots.length := by
  rw [ext_len]
  simp only [lastL, ext_at, hx, Bool.not_true, Bool.false_and, Bool.false_eq_true, if_false]
  exact ext_lastL hx _ (Nat.le_refl _)
theorem ext_firstL' {f : Flow} {x : Lot} (hx : x.known = true) : firstL (extF f x) (extF f x).lots.length = firstL f f.lots.length := by
  rw [ext_len]
  simp only [firstL, ext_at, hx, Bool.not_true, Bool.false_and, Bool.false_eq_true, if_false]
  exact ext_firstL hx _ (Nat.le_refl _)
theorem ext_prodTo {f : Flow} {x : Lot} {l : List Int} (hl : ∀ y ∈ l, 0 ≤ y ∧ y < f.lots.length) : ∀ k, k ≤ l.length → prodTo (extF f x) l k = prodTo f l k
  | 0, _ => rfl
  | k + 1, hk => by
    have h := hl _ (nth_mem (show k < l.length by omega))
    simp only [prodTo, ext_prodTo hl k (by omega), ext_lot f x (show (nth l k).toNat < f.lots.length by omega)]
theorem ext_lowerOk {f : Flow} {x : Lot} (hx : x.known = true) : lowerOk (extF f x) = lowerOk f := by
  unfold lowerOk prodB
  rw [ext_lastL' hx, ext_firstL' hx, ext_prodTo (lastL_mem f _) _ (Nat.le_refl _), ext_prodTo (firstL_mem f _) _ (Nat.le_refl _)]
theorem ext_lower {f : Flow} {x : Lot} (hx : x.known = true) (h1 : checkE f = 0) (h2 : checkE (extF f x) = 0) : lowerE (extF f x) = lowerE f ∧ lowerR (extF f x) = lowerR f ∧ lowerL (extF f x) = lowerL f := by
  have e : lowerE (extF f x) = lowerE f := by unfold lowerE; rw [h1, h2, ext_lowerOk hx]
  refine ⟨e, ?_, ?_⟩
  · unfold lowerR prodR
    rw [e, ext_lastL' hx, ext_firstL' hx, ext_prodTo (lastL_mem f _) _ (Nat.le_refl _), ext_prodTo (firstL_mem f _) _ (Nat.le_refl _)]
  · unfold lowerL prodR
    rw [e, ext_lastL' hx, ext_firstL' hx, ext_prodTo (lastL_mem f _) _ (Nat.le_refl _), ext_prodTo (firstL_mem f _) _ (Nat.le_refl _)]

end Go.Proofs.Ytndcbnnbgedgcaa

/-
  Layer 28, in plain Lean: with at most six senders the products never become too great.
-/
set_option linter.unusedVariables false
set_option linter.unusedSimpArgs false
namespace Go.Proofs.Ytndcbnnbgedgcaa

/-! ### products -/
theorem pow_six (n : Nat) (h : n ≤ 6) : (1 : Int) ≤ 6 ^ n ∧ (6 : Int) ^ n ≤ 46656 := by
  have hn : n = 0 ∨ n = 1 ∨ n = 2 ∨ n = 3 ∨ n = 4 ∨ n = 5 ∨ n = 6 := by omega
  rcases hn with rfl | rfl | rfl | rfl | rfl | rfl | rfl <;> decide
theorem fac_some {v : Int} {a : Nat} (h1 : 1 ≤ v) (h2 : v ≤ 6 ^ a) : ∀ i : Nat, a + i ≤ 6 → ∃ u, facTo v i = some u ∧ 1 ≤ u ∧ u ≤ 6 ^ (a + i)
  | 0, _ => ⟨v, rfl, h1, h2⟩
  | i + 1, hi => by
    obtain ⟨u, e, b1, b2⟩ := fac_some h1 h2 i (by omega)
    have hp := pow_six (a + i) (by omega)
    have hi' : i = 0 ∨ i = 1 ∨ i = 2 ∨ i = 3 ∨ i = 4 ∨ i = 5 := by omega
    have h6 : (6 : Int) ^ (a + (i + 1)) = 6 ^ (a + i) * 6 := by rw [show a + (i + 1) = (a + i) + 1 by omega, Int.pow_succ]
    refine ⟨u * ((i : Int) + 1), ?_, ?_, ?_⟩
    · simp only [facTo, e]
      rw [if_neg]
      unfold mostI
      rcases hi' with rfl | rfl | rfl | rfl | rfl | rfl <;> simp <;> omega
    · rcases hi' with rfl | rfl | rfl | rfl | rfl | rfl <;> simp <;> omega
    · rw [h6]
      generalize (6 : Int) ^ (a + i) = P at *
      rcases hi' with rfl | rfl | rfl | rfl | rfl | rfl <;> simp <;> omega
def sizeTo (f : Flow) (l : List Int) : Nat → Nat
  | 0 => 0
  | k + 1 => sizeTo f l k + (lotAt f.lots (nth l k).toNat).ins.length
theorem prod_some {f : Flow} {l : List Int} : ∀ k, sizeTo f l k ≤ 6 → ∃ v, prodTo f l k = some v ∧ 1 ≤ v ∧ v ≤ 6 ^ sizeTo f l k
  | 0, _ => ⟨1, rfl, by omega, by simp [sizeTo]⟩
  | k + 1, h => by
    simp only [sizeTo] at h
    obtain ⟨v, e, b1, b2⟩ := prod_some (f := f) (l := l) k (by omega)
    obtain ⟨u, e2, c1, c2⟩ := fac_some b1 b2 (lotAt f.lots (nth l k).toNat).ins.length h
    exact ⟨u, by simp only [prodTo, e]; exact e2, c1, by simpa only [sizeTo] using c2⟩
theorem sizeTo_eq (f : Flow) : ∀ (l : List Int) (k : Nat), k ≤ l.length → sizeTo f l k = ((l.take k).map fun x => (lotAt f.lots x.toNat).ins.length).sum
  | l, 0, _ => by simp [sizeTo]
  | l, k + 1, hk => by
    have hk' : k < l.length := by omega
    simp only [sizeTo]
    rw [sizeTo_eq f l k (by omega), List.take_succ_eq_append_getElem hk', List.map_append, List.sum_append, nth_eq_getElem hk']
    simp
def sizeL (f : Flow) (l : List Int) : Nat := (l.map fun x => (lotAt f.lots x.toNat).ins.length).sum
theorem prodB_ok {f : Flow} {l : List Int} (h : sizeL f l ≤ 6) : prodB f l = true := by
  have h2 : sizeTo f l l.length ≤ 6 := by rw [sizeTo_eq f l _ (Nat.le_refl _), List.take_length]; exact h
  obtain ⟨v, e, _⟩ := prod_some (f := f) (l := l) l.length h2
  unfold prodB
  rw [e]; rfl
theorem sizeL_snoc (f : Flow) (l : List Int) (k : Nat) : sizeL f (l ++ [(k : Int)]) = sizeL f l + (lotAt f.lots k).ins.length := by
  unfold sizeL
  simp

/-! ### where letters are -/
/-- a spot that is no out of a known lot -/
def Orig (f : Flow) (s : Int) : Prop := ∀ j, j < f.lots.length → (lotAt f.lots j).known = true → ¬ (beforeI f j ≤ s ∧ s < beforeI f (j + 1))
theorem spotAt_unborn {f : Flow} {m : Nat} (h : lotsB f m = true) {s : Int} (hs : beforeI f (m - 1) ≤ s) : spotAt f s m = s := by
  refine spotAt_stay (k := 0) (Nat.zero_le _) (fun j _ hj => ?_)
  show hasB (lotAt f.lots j).ins s = false
  cases hh : hasB (lotAt f.lots j).ins s
  · rfl
  · have h1 := ins_lt h hj hh
    have h2 := beforeI_mono (f := f) (show j ≤ m - 1 by omega)
    omega
theorem spotAt_lt {f : Flow} {n : Nat} (h : lotsB f n = true) {s : Int} : ∀ m, m ≤ n → s < beforeI f m → spotAt f s m < beforeI f m
  | 0, _, hs => hs
  | m + 1, hm, hs => by
    have hmono : beforeI f m ≤ beforeI f (m + 1) := beforeI_mono (by omega)
    by_cases hb : s < beforeI f m
    · have ih := spotAt_lt h m (by omega) hb
      simp only [spotAt]
      cases hh : hasB (lotAt f.lots m).ins (spotAt f s m)
      · simp only [Bool.false_eq_true, if_false]; omega
      · simp only [if_true]
        have hi := nth_idx (hasB_iff.1 hh)
        have hf := lotB_facts (lotsB_lot h (show m < n by omega))
        simp only [beforeI]
        have : nth (lotAt f.lots m).perm ((lotAt f.lots m).ins.idxOf (spotAt f s m)) < ((lotAt f.lots m).ins.length : Int) := by
          cases hk : (lotAt f.lots m).known
          · have hp : (lotAt f.lots m).perm = [] := by
              have := lotsB_lot h (show m < n by omega)
              unfold lotB at this
              simp [hk] at this
              exact this.2
            rw [hp]
            have : nth [] ((lotAt f.lots m).ins.idxOf (spotAt f s m)) = 0 := rfl
            rw [this]; omega
          · have hp := hf.2.2 hk
            exact (hp.2.2 _ (nth_mem (by rw [hp.1]; exact hi.1))).2
        omega
    · rw [spotAt_unborn (lotsB_le h hm) (by simp only [Nat.add_sub_cancel]; omega)]
      exact hs
theorem spotAt_ge {f : Flow} {n : Nat} (h : lotsB f n = true) {s : Int} (h0 : 0 ≤ s) (hb : 0 ≤ f.senders) : ∀ m, m ≤ n → 0 ≤ spotAt f s m
  | 0, _ => h0
  | m + 1, hm => by
    have ih := spotAt_ge h h0 hb m (by omega)
    have := beforeI_mono (f := f) (Nat.zero_le m)
    simp only [beforeI] at this
    simp only [spotAt]
    split
    · have := perm_ge h (show m < n by omega) ((lotAt f.lots m).ins.idxOf (spotAt f s m)); omega
    · exact ih
theorem unkTo_neg {f : Flow} {s : Int} {m : Nat} (h : unkTo f s (m + 1) < 0) : unkTo f s m < 0 ∧ (hasB (lotAt f.lots m).ins (spotAt f s m) = true → (lotAt f.lots m).known = true) := by
  simp only [unkTo] at h
  split at h
  · omega
  · refine ⟨by omega, fun hh => ?_⟩
    cases hk : (lotAt f.lots m).known
    · rw [hh, hk] at h; simp at h; omega
    · rfl
/-- two letters are never at one spot -/
theorem spotAt_inj {f : Flow} (h : lotsB f f.lots.length = true) {s s' : Int} (hs : Orig f s) (hs' : Orig f s') : ∀ m, m ≤ f.lots.length → unkTo f s m < 0 → unkTo f s' m < 0 → spotAt f s m = spotAt f s' m → s = s'
  | 0, _, _, _, e => e
  | m + 1, hm, u1, u2, e => by
    obtain ⟨v1, k1⟩ := unkTo_neg u1
    obtain ⟨v2, k2⟩ := unkTo_neg u2
    have ih := spotAt_inj h hs hs' m (by omega) v1 v2
    have hf := lotB_facts (lotsB_lot h (show m < f.lots.length by omega))
    have side : ∀ a b : Int, Orig f b → hasB (lotAt f.lots m).ins (spotAt f a m) = true → (lotAt f.lots m).known = true →
        beforeI f m + nth (lotAt f.lots m).perm ((lotAt f.lots m).ins.idxOf (spotAt f a m)) = spotAt f b m → False := by
      intro a b hb hh hk e
      have hi := nth_idx (hasB_iff.1 hh)
      have hp := hf.2.2 hk
      have hr := hp.2.2 _ (nth_mem (by rw [hp.1]; exact hi.1) : nth (lotAt f.lots m).perm ((lotAt f.lots m).ins.idxOf (spotAt f a m)) ∈ _)
      by_cases hbm : b < beforeI f m
      · have := spotAt_lt h m (by omega) hbm
        omega
      · have hbb : spotAt f b m = b := by
          refine spotAt_unborn (lotsB_le h (by omega)) ?_
          have := beforeI_mono (f := f) (show m - 1 ≤ m by omega)
          omega
        rw [hbb] at e
        refine hb m (by omega) hk ⟨by omega, ?_⟩
        simp only [beforeI]
        omega
    simp only [spotAt] at e
    cases h1 : hasB (lotAt f.lots m).ins (spotAt f s m) <;> cases h2 : hasB (lotAt f.lots m).ins (spotAt f s' m) <;> simp only [h1, h2, if_true, Bool.false_eq_true, if_false] at e
    · exact ih e
    · exact (side s' s hs h2 (k2 h2) e.symm).elim
    · exact (side s s' hs' h1 (k1 h1) e).elim
    · have hk := k1 h1
      have hp := hf.2.2 hk
      have i1 := nth_idx (hasB_iff.1 h1)
      have i2 := nth_idx (hasB_iff.1 h2)
      have := nth_inj hp.2.1 (by rw [hp.1]; exact i1.1) (by rw [hp.1]; exact i2.1) (by omega)
      refine ih ?_
      rw [← i1.2, ← i2.2, this]
theorem before_apart {f : Flow} {j k : Nat} {s : Int} (h1 : beforeI f j ≤ s ∧ s < beforeI f (j + 1)) (h2 : beforeI f k ≤ s ∧ s < beforeI f (k + 1)) : j = k := by
  rcases Nat.lt_trichotomy j k with h | h | h
  · have := beforeI_mono (f := f) (show j + 1 ≤ k by omega); omega
  · exact h
  · have := beforeI_mono (f := f) (show k + 1 ≤ j by omega); omega
theorem src_out {f : Flow} {k : Nat} (hk : (lotAt f.lots k).known = false) {s : Int} (h : beforeI f k ≤ s ∧ s < beforeI f (k + 1)) : Orig f s := by
  intro j _ hj hh
  have := before_apart h hh
  subst this
  rw [hk] at hj; cases hj
theorem src_sender {f : Flow} {s : Int} (h : s < f.senders) : Orig f s := by
  intro j _ _ hh
  have := beforeI_mono (f := f) (Nat.zero_le j)
  simp only [beforeI] at this
  omega

end Go.Proofs.Ytndcbnnbgedgcaa

/-
  Layer 28, in plain Lean: the last and the first lots hold at most as many places as there are senders.
-/
set_option linter.unusedVariables false
set_option linter.unusedSimpArgs false
namespace Go.Proofs.Ytndcbnnbgedgcaa

/-! ### the last lots -/
theorem lastTo_all {f : Flow} {k : Nat} : ∀ n, lastTo f k n = true → ∀ i : Nat, i < n → unkI f (beforeI f k + i) < 0
  | 0, _, i, hi => by omega
  | n + 1, h, i, hi => by
    simp only [lastTo, Bool.and_eq_true, decide_eq_true_eq] at h
    by_cases e : i = n
    · subst e; exact h.2
    · exact lastTo_all n h.1 i (by omega)
def srcL (f : Flow) : Nat → List Int
  | 0 => []
  | k + 1 => if !(lotAt f.lots k).known && lastB f k then srcL f k ++ (upL (lotAt f.lots k).ins.length).map (fun i => beforeI f k + i) else srcL f k
theorem srcL_len (f : Flow) : ∀ k, (srcL f k).length = sizeL f (lastL f k)
  | 0 => rfl
  | k + 1 => by
    simp only [srcL, lastL]
    split
    · rw [sizeL_snoc, List.length_append, srcL_len f k, List.length_map, upL_len]
    · exact srcL_len f k
theorem srcL_in {f : Flow} (h0 : 0 ≤ f.senders) : ∀ k, ∀ s ∈ srcL f k, 0 ≤ s ∧ s < beforeI f k ∧ Orig f s ∧ unkI f s < 0
  | 0, s, hs => by cases hs
  | k + 1, s, hs => by
    have hmono : beforeI f k ≤ beforeI f (k + 1) := beforeI_mono (by omega)
    simp only [srcL] at hs
    split at hs
    · rename_i hc
      simp only [Bool.and_eq_true, Bool.not_eq_true'] at hc
      rcases List.mem_append.1 hs with hs | hs
      · obtain ⟨a, b, c, d⟩ := srcL_in h0 k s hs
        exact ⟨a, by omega, c, d⟩
      · obtain ⟨i, hi, rfl⟩ := List.mem_map.1 hs
        have hi2 := (upL_mem i _).1 hi
        have hb := beforeI_mono (f := f) (Nat.zero_le k)
        have hr : beforeI f (k + 1) = beforeI f k + (lotAt f.lots k).ins.length := rfl
        simp only [beforeI] at hb
        refine ⟨by omega, by omega, src_out hc.1 ⟨by omega, by omega⟩, ?_⟩
        have := lastTo_all _ hc.2 i.toNat (by omega)
        rw [show ((i.toNat : Nat) : Int) = i by omega] at this
        exact this
    · obtain ⟨a, b, c, d⟩ := srcL_in h0 k s hs
      exact ⟨a, by omega, c, d⟩
theorem srcL_nodup {f : Flow} (h0 : 0 ≤ f.senders) : ∀ k, (srcL f k).Nodup
  | 0 => List.nodup_nil
  | k + 1 => by
    simp only [srcL]
    split
    · rw [List.nodup_append]
      refine ⟨srcL_nodup h0 k, map_nodup (S := fun _ => True) (fun x y _ _ e => by omega) (upL_nodup _) (fun _ _ => trivial), fun a ha b hb e => ?_⟩
      obtain ⟨i, hi, rfl⟩ := List.mem_map.1 hb
      have hi2 := (upL_mem i _).1 hi
      have := (srcL_in h0 k a ha).2.1
      omega
    · exact srcL_nodup h0 k
theorem gone_not {f : Flow} {x : Int} : ∀ k, (∀ j, j < k → hasB (lotAt f.lots j).ins x = false) → goneB f x k = false
  | 0, _ => rfl
  | k + 1, h => by simp only [goneB, gone_not k (fun j hj => h j (by omega)), h k (by omega), Bool.or_false]
theorem last_size {f : Flow} (h : checkE f = 0) : (sizeL f (lastL f f.lots.length) : Int) ≤ f.senders := by
  have hc := checkE_ok h
  have hl := hc.2.2.2.2
  have he := ends_count h
  have hb := beforeI_mono (f := f) (Nat.zero_le f.lots.length)
  simp only [beforeI] at hb
  have key := inj_len (fun s => spotAt f s f.lots.length) (srcL f f.lots.length) (endsL f) (srcL_nodup hc.1 _) (fun a ha b hb e => by
      have h1 := srcL_in hc.1 _ a ha
      have h2 := srcL_in hc.1 _ b hb
      exact spotAt_inj hl h1.2.2.1 h2.2.2.1 _ (Nat.le_refl _) h1.2.2.2 h2.2.2.2 e) (fun a ha => by
    have h1 := srcL_in hc.1 _ a ha
    have h2 := spotAt_lt hl _ (Nat.le_refl _) h1.2.1
    have h3 := spotAt_ge hl h1.1 hc.1 _ (Nat.le_refl _)
    unfold endsL
    rw [endsTo_mem]
    exact ⟨h3, by omega, gone_not _ (fun j hj => spotAt_not hl a _ (Nat.le_refl _) j hj)⟩)
  rw [srcL_len] at key
  omega

/-! ### the first lots -/
theorem perm_onto {l : List Int} (hn : l.Nodup) (hb : ∀ y ∈ l, 0 ≤ y ∧ y < l.length) {i : Int} (h0 : 0 ≤ i) (h1 : i < l.length) : i ∈ l := by
  refine Classical.byContradiction fun h => ?_
  have := inj_len (fun y => y) (i :: l) (upL l.length) (List.nodup_cons.2 ⟨h, hn⟩) (fun _ _ _ _ e => e) (fun y hy => by
    rw [upL_mem]
    rcases List.mem_cons.1 hy with rfl | hy
    · exact ⟨h0, h1⟩
    · exact hb y hy)
  rw [upL_len, List.length_cons] at this
  omega
/-- every spot that still holds a letter is where one of the letters is -/
theorem spots_covered {f : Flow} (h : lotsB f f.lots.length = true) (hs0 : 0 ≤ f.senders) : ∀ m, m ≤ f.lots.length → ∀ y, 0 ≤ y → y < beforeI f m → goneB f y m = false →
    ∃ s, 0 ≤ s ∧ s < beforeI f m ∧ Orig f s ∧ unkTo f s m < 0 ∧ spotAt f s m = y
  | 0, _, y, y0, y1, _ => ⟨y, y0, y1, src_sender y1, by simp [unkTo], rfl⟩
  | m + 1, hm, y, y0, y1, hg => by
    have hmono : beforeI f m ≤ beforeI f (m + 1) := beforeI_mono (by omega)
    have hr : beforeI f (m + 1) = beforeI f m + (lotAt f.lots m).ins.length := rfl
    have hf := lotB_facts (lotsB_lot h (show m < f.lots.length by omega))
    simp only [goneB, Bool.or_eq_false_iff] at hg
    by_cases hym : y < beforeI f m
    · obtain ⟨s, a, b, c, d, e⟩ := spots_covered h hs0 m (by omega) y y0 hym hg.1
      refine ⟨s, a, by omega, c, ?_, ?_⟩
      · simp only [unkTo]
        rw [if_neg (by omega), e, hg.2]
        simp
      · simp only [spotAt]
        rw [e, hg.2]
        simp
    · cases hk : (lotAt f.lots m).known
      · have hun : spotAt f y m = y := spotAt_unborn (lotsB_le h (by omega)) (by have := beforeI_mono (f := f) (show m - 1 ≤ m by omega); omega)
        refine ⟨y, y0, y1, src_out hk ⟨by omega, y1⟩, ?_, ?_⟩
        · have hul : unkTo f y m < 0 := by
            refine Classical.byContradiction fun hn => ?_
            have h2 := unkTo_stay (f := f) (s := y) (k := m) (m := f.lots.length) (by omega) (by omega)
            have h3 := unk_later h (show m < f.lots.length by omega) (s := y) (by omega)
            have h4 := (unkTo_lt f y m).2
            omega
          simp only [unkTo]
          rw [if_neg (by omega), hun, hg.2]
          simp
        · simp only [spotAt]
          rw [hun, hg.2]
          simp
      · have hp := hf.2.2 hk
        have hon := perm_onto hp.2.1 (fun z hz => by rw [hp.1]; exact hp.2.2 z hz) (i := y - beforeI f m) (by omega) (by rw [hp.1]; omega)
        have hidx := nth_idx hon
        obtain ⟨j, hj⟩ : ∃ j, (lotAt f.lots m).perm.idxOf (y - beforeI f m) = j := ⟨_, rfl⟩
        rw [hj] at hidx
        have hjl : j < (lotAt f.lots m).ins.length := by rw [← hp.1]; exact hidx.1
        have hx := hf.2.1 _ (nth_mem hjl)
        obtain ⟨s, a, b, c, d, e⟩ := spots_covered h hs0 m (by omega) _ hx.1 hx.2.1 hx.2.2
        have hhas : hasB (lotAt f.lots m).ins (nth (lotAt f.lots m).ins j) = true := hasB_iff.2 (nth_mem hjl)
        have hi := nth_idx (nth_mem hjl)
        have hij : (lotAt f.lots m).ins.idxOf (nth (lotAt f.lots m).ins j) = j := nth_inj hf.1 hi.1 hjl hi.2
        refine ⟨s, a, by omega, c, ?_, ?_⟩
        · simp only [unkTo]
          rw [if_neg (by omega), hk]
          simp
        · simp only [spotAt]
          rw [e, hhas, hij]
          simp only [if_true]
          omega
theorem before_find {f : Flow} {s : Int} : ∀ k, f.senders ≤ s → s < beforeI f k → ∃ j, j < k ∧ beforeI f j ≤ s ∧ s < beforeI f (j + 1)
  | 0, h0, h1 => by simp only [beforeI] at h1; omega
  | k + 1, h0, h1 => by
    by_cases h : s < beforeI f k
    · obtain ⟨j, a, b, c⟩ := before_find k h0 h
      exact ⟨j, by omega, b, c⟩
    · exact ⟨k, by omega, by omega, h1⟩
theorem comesTo_not {f : Flow} {m k : Nat} : ∀ n, comesTo f m k n = false → ∀ i : Nat, i < n → unkI f (beforeI f k + i) ≠ (m : Int)
  | 0, _, i, hi => by omega
  | n + 1, h, i, hi => by
    simp only [comesTo, Bool.or_eq_false_iff] at h
    by_cases e : i = n
    · subst e; exact fun e => by rw [e] at h; simp at h
    · exact comesTo_not n h.1 i (by omega)
theorem hitTo_not {f : Flow} {m : Nat} : ∀ k, hitTo f m k = false → ∀ j, j < k → (lotAt f.lots j).known = false → comesTo f m j (lotAt f.lots j).ins.length = false
  | 0, _, j, hj, _ => by omega
  | k + 1, h, j, hj, hk => by
    simp only [hitTo, Bool.or_eq_false_iff] at h
    by_cases e : j = k
    · subst e
      have := h.2
      rw [hk] at this
      simpa using this
    · exact hitTo_not k h.1 j (by omega) hk
theorem first_in {f : Flow} (h : lotsB f f.lots.length = true) (hs0 : 0 ≤ f.senders) {k : Nat} (hk : k < f.lots.length) (hkn : (lotAt f.lots k).known = false) (hfi : firstB f k = true) {y : Int} (hy : y ∈ (lotAt f.lots k).ins) :
    ∃ s, 0 ≤ s ∧ s < f.senders ∧ unkI f s = k ∧ spotAt f s k = y := by
  have hx := (lotB_facts (lotsB_lot h hk)).2.1 y hy
  obtain ⟨s, a, b, c, d, e⟩ := spots_covered h hs0 k (by omega) y hx.1 hx.2.1 hx.2.2
  have h1 : unkTo f s (k + 1) = k := by
    simp only [unkTo]
    rw [if_neg (by omega), e, hasB_iff.2 hy, hkn]
    simp
  have h2 : unkI f s = k := by
    unfold unkI
    rw [unkTo_stay (k := k + 1) (by omega) (by omega), h1]
  refine ⟨s, a, Classical.byContradiction fun hn => ?_, h2, e⟩
  obtain ⟨j, hj, j1, j2⟩ := before_find k (by omega) b
  have hjk : (lotAt f.lots j).known = false := by
    cases hh : (lotAt f.lots j).known
    · rfl
    · exact (c j (by omega) hh ⟨j1, j2⟩).elim
  have hhit : hitTo f k k = false := by unfold firstB at hfi; simpa using hfi
  have hc := hitTo_not k hhit j hj hjk
  have hr : beforeI f (j + 1) = beforeI f j + (lotAt f.lots j).ins.length := rfl
  refine comesTo_not _ hc (s - beforeI f j).toNat (by omega) ?_
  rw [show beforeI f j + ((s - beforeI f j).toNat : Int) = s by omega]
  exact h2
theorem filter_step (g : Int → Int) (m : Nat) : ∀ l : List Int, (l.filter fun s => decide (0 ≤ g s) && decide (g s < ((m + 1 : Nat) : Int))).length = (l.filter fun s => decide (0 ≤ g s) && decide (g s < (m : Int))).length + (l.filter fun s => g s == (m : Int)).length
  | [] => rfl
  | a :: t => by
    have ih := filter_step g m t
    simp only [List.filter_cons]
    by_cases h1 : 0 ≤ g a ∧ g a < (m : Int)
    · have e1 : (decide (0 ≤ g a) && decide (g a < ((m + 1 : Nat) : Int))) = true := by simp; omega
      have e2 : (decide (0 ≤ g a) && decide (g a < (m : Int))) = true := by simp; omega
      have e3 : (g a == (m : Int)) = false := by simp; omega
      simp only [e1, e2, e3, if_true, Bool.false_eq_true, if_false, List.length_cons]
      omega
    · by_cases h2 : g a = (m : Int)
      · have e1 : (decide (0 ≤ g a) && decide (g a < ((m + 1 : Nat) : Int))) = true := by simp; omega
        have e2 : (decide (0 ≤ g a) && decide (g a < (m : Int))) = false := by simp; omega
        have e3 : (g a == (m : Int)) = true := by simp [h2]
        simp only [e1, e2, e3, if_true, Bool.false_eq_true, if_false, List.length_cons]
        omega
      · have e1 : (decide (0 ≤ g a) && decide (g a < ((m + 1 : Nat) : Int))) = false := by simp; omega
        have e2 : (decide (0 ≤ g a) && decide (g a < (m : Int))) = false := by simp; omega
        have e3 : (g a == (m : Int)) = false := by simp [h2]
        simp only [e1, e2, e3, Bool.false_eq_true, if_false]
        omega
theorem first_sum {f : Flow} (h : lotsB f f.lots.length = true) (hs0 : 0 ≤ f.senders) : ∀ m, m ≤ f.lots.length → sizeL f (firstL f m) ≤ ((upL f.senders.toNat).filter fun s => decide (0 ≤ unkI f s) && decide (unkI f s < (m : Int))).length
  | 0, _ => by simp [firstL, sizeL]
  | m + 1, hm => by
    have ih := first_sum h hs0 m (by omega)
    rw [filter_step]
    simp only [firstL]
    split
    · rename_i hc
      simp only [Bool.and_eq_true, Bool.not_eq_true'] at hc
      rw [sizeL_snoc]
      have hf := lotB_facts (lotsB_lot h (show m < f.lots.length by omega))
      have key := inj_len (fun y => y) (lotAt f.lots m).ins (((upL f.senders.toNat).filter fun s => unkI f s == (m : Int)).map fun s => spotAt f s m) hf.1 (fun _ _ _ _ e => e) (fun y hy => by
        obtain ⟨s, a, b, c, d⟩ := first_in h hs0 (show m < f.lots.length by omega) hc.1 hc.2 hy
        refine List.mem_map.2 ⟨s, List.mem_filter.2 ⟨(upL_mem s _).2 ⟨a, by omega⟩, by simp [c]⟩, d⟩)
      rw [List.length_map] at key
      omega
    · omega
theorem first_size {f : Flow} (h : checkE f = 0) : (sizeL f (firstL f f.lots.length) : Int) ≤ f.senders := by
  have hc := checkE_ok h
  have h1 := first_sum hc.2.2.2.2 hc.1 _ (Nat.le_refl _)
  have h2 := List.length_filter_le (fun s => decide (0 ≤ unkI f s) && decide (unkI f s < (f.lots.length : Int))) (upL f.senders.toNat)
  rw [upL_len] at h2
  omega
/-- with at most six senders the lower bound is always given -/
theorem lower_ok {f : Flow} (h : checkE f = 0) (h6 : f.senders ≤ 6) : lowerE f = 0 := by
  have h1 := last_size h
  have h2 := first_size h
  unfold lowerE
  rw [if_neg (by simp [h]), if_pos]
  unfold lowerOk
  rw [prodB_ok (by omega), prodB_ok (by omega)]
  rfl
theorem ext_check {f : Flow} {x : Lot} (h : checkE (extF f x) = 0) : checkE f = 0 := by
  have := checkE_pre h (k := f.lots.length) (by rw [ext_len]; omega)
  rwa [ext_pre] at this
/-- THE LAW of BoundsMore -/
theorem bounds_law {f : Flow} {x : Lot} (h : checkE (extF f x) = 0) (h6 : f.senders ≤ 6) : upperE f = 0 ∧ upperE (extF f x) = 0 ∧ lowerE f = 0 ∧ lowerE (extF f x) = 0 ∧ upperR f ≤ upperR (extF f x) ∧
    (x.known = true → upperR f = upperR (extF f x) ∧ lowerR f = lowerR (extF f x) ∧ lowerL f = lowerL (extF f x)) := by
  have h0 := ext_check h
  have hc := checkE_ok h
  have hc0 := checkE_ok h0
  have hb := beforeI_mono (f := f) (Nat.zero_le f.lots.length)
  simp only [beforeI] at hb
  have hl := hc.2.2.2.2
  rw [ext_len] at hl
  have e1 : upperE f = 0 := by unfold upperE; rw [if_neg (by simp [h0]), if_neg (by omega)]
  have e2 : upperE (extF f x) = 0 := by unfold upperE; rw [if_neg (by simp [h]), if_neg (by show ¬ 12 < f.senders; omega)]
  have r1 : upperR f = waysS (rowsOf f) [] := by unfold upperR; rw [if_pos e1]
  have r2 : upperR (extF f x) = waysS (rowsOf (extF f x)) [] := by unfold upperR; rw [if_pos e2]
  refine ⟨e1, e2, lower_ok h0 h6, lower_ok h h6, ?_, fun hk => ?_⟩
  · rw [r1, r2]
    exact ways_le hl (by omega)
  · have hlow := ext_lower hk h0 h
    refine ⟨?_, hlow.2.1.symm, hlow.2.2.symm⟩
    rw [r1, r2]
    exact (ways_eq hl (by omega) hc0.1 hk).symm

end Go.Proofs.Ytndcbnnbgedgcaa

/-
  A region whose order is drawn, by an invariant over what has been done: one step for each operation, whatever came before it.
-/
set_option linter.unusedVariables false
set_option linter.unusedSimpArgs false
namespace Go.Proofs.Ytndcbnnbgedgcaa
open Go.RowKit

/-- done: the set of the operations that have come up -/
def upd (L : Nat → Bool) (i : Nat) : Nat → Bool := fun j => j == i || L j
def allOn (L : Nat → Bool) : List Nat → Prop
  | [] => True
  | d :: r => L d = true ∧ allOn L r
theorem allOn_mem {L : Nat → Bool} : ∀ {l : List Nat}, (∀ d ∈ l, L d = true) → allOn L l
  | [], _ => trivial
  | d :: r, h => ⟨h d (by simp), allOn_mem fun e he => h e (by simp [he])⟩
/-- the operations that must come ahead of an operation -/
def depsOf (o : Oper) : List Nat := (o.after.toList.filter (Region.binds .any)).map (·.on)
/-- all edges point to an earlier operation -/
def backB : Nat → List Oper → Bool
  | _, [] => true
  | k, o :: r => (depsOf o).all (fun d => decide (d < k)) && backB (k + 1) r
theorem backB_at : ∀ {l : List Oper} {k : Nat}, backB k l = true → ∀ {i : Nat} {o : Oper}, l[i]? = some o → ∀ d ∈ depsOf o, d < k + i
  | [], _, _, i, o, ho, _, _ => by simp at ho
  | o' :: r, k, h, 0, o, ho, d, hd => by
    simp only [backB, Bool.and_eq_true, List.all_eq_true, decide_eq_true_eq] at h
    simp at ho
    subst ho
    simpa using h.1 d hd
  | o' :: r, k, h, i + 1, o, ho, d, hd => by
    simp only [backB, Bool.and_eq_true] at h
    have := backB_at h.2 (i := i) (o := o) (by simpa using ho) d hd
    omega

section
variable {P : Program} {ops : Array Oper} {Q : Exit → Act → World → Prop}

def InvStep (P : Program) (ops : Array Oper) (Q : Exit → Act → World → Prop) (I : (Nat → Bool) → Act → World → Prop) (i : Nat) (o : Oper) : Prop :=
  ∀ (L : Nat → Bool) (a : Act) (w : World), L i = false → allOn L (depsOf o) → I L a w →
    ∀ K : Act → World → Prop, Shut (∀ a' w', I (upd L i) a' w' → K a' w') → if Region.wanted o (yielded ops a.tmps) = true then Oper.wp P o a w K Q else K (a.put o.dst undef) w
def InvSteps (P : Program) (ops : Array Oper) (Q : Exit → Act → World → Prop) (I : (Nat → Bool) → Act → World → Prop) : Nat → List Oper → Prop
  | _, [] => True
  | k, o :: r => InvStep P ops Q I k o ∧ InvSteps P ops Q I (k + 1) r
theorem InvSteps.at {I : (Nat → Bool) → Act → World → Prop} : ∀ {l : List Oper} {k : Nat}, InvSteps P ops Q I k l → ∀ {i : Nat} {o : Oper}, l[i]? = some o → InvStep P ops Q I (k + i) o
  | [], _, _, i, o, ho => by simp at ho
  | o' :: r, k, h, 0, o, ho => by
    simp at ho
    subst ho
    exact h.1
  | o' :: r, k, h, i + 1, o, ho => by
    have := InvSteps.at h.2 (i := i) (o := o) (by simpa using ho)
    rw [show k + (i + 1) = k + 1 + i by omega]
    exact this

theorem upd_listed {listed : Array Bool} {i : Nat} (hi : i < listed.size) : (fun j => (listed.setIfInBounds i true).getD j false) = upd (fun j => listed.getD j false) i := by
  funext j
  unfold upd
  by_cases h : j = i
  · subst h
    simp [Array.getD_eq_getD_getElem?, hi]
  · have h' : ¬ i = j := fun e => h e.symm
    simp [Array.getD_eq_getD_getElem?, Array.getElem?_setIfInBounds_ne h', h]

/-- how many are not yet done -/
def leftN (L : Nat → Bool) : Nat → Nat
  | 0 => 0
  | n + 1 => leftN L n + (if L n = true then 0 else 1)
theorem leftN_upd_ge {L : Nat → Bool} {i : Nat} : ∀ n, n ≤ i → leftN (upd L i) n = leftN L n
  | 0, _ => rfl
  | n + 1, h => by
    have hn : (n == i) = false := by simp; omega
    have ih := leftN_upd_ge (L := L) (i := i) n (by omega)
    simp [leftN, ih]
    simp [upd, hn]
theorem leftN_upd {L : Nat → Bool} {i : Nat} (hi : L i = false) : ∀ n, i < n → leftN (upd L i) n + 1 = leftN L n
  | 0, h => by omega
  | n + 1, h => by
    rcases Nat.lt_or_ge i n with h1 | h1
    · have hn : (n == i) = false := by simp; omega
      have ih := leftN_upd hi n h1
      simp [leftN, upd, hn] at *
      omega
    · obtain rfl : i = n := by omega
      simp [leftN, leftN_upd_ge i (Nat.le_refl _), upd, hi]
theorem leftN_zero {L : Nat → Bool} : ∀ n, leftN L n = 0 → ∀ i, i < n → L i = true
  | 0, _, i, h => by omega
  | n + 1, h, i, hi => by
    simp only [leftN] at h
    rcases Nat.lt_or_ge i n with h1 | h1
    · exact leftN_zero n (by omega) i h1
    · obtain rfl : i = n := by omega
      by_cases hh : L i = true
      · exact hh
      · simp [hh] at h

theorem wpAny_inv {l : List Oper} (hb : backB 0 l = true) {I : (Nat → Bool) → Act → World → Prop} (hs : InvSteps P l.toArray Q I 0 l)
    (he : ∀ (L : Nat → Bool) a w, (∀ i, i < l.length → L i = true) → I L a w → Q .normal a w) :
    ∀ (fuel : Nat) (listed : Array Bool) (a : Act) (w : World), listed.size = l.length → leftN (fun j => listed.getD j false) l.length ≤ fuel → I (fun j => listed.getD j false) a w →
      wpAny P .any l.toArray Q fuel listed a w := by
  have hfull : ∀ (listed : Array Bool), listed.size = l.length → Region.ready .any l.toArray listed = [] → ∀ n, n ≤ l.length → ∀ i, i < n → listed.getD i false = true := by
    intro listed hz hr n
    induction n with
    | zero => intro _ i hi; omega
    | succ n ih =>
      intro hn i hi
      rcases Nat.lt_or_ge i n with h1 | h1
      · exact ih (by omega) i h1
      · obtain rfl : i = n := by omega
        by_cases hh : listed.getD i false = true
        · exact hh
        · exfalso
          have hmem : i ∈ Region.ready .any l.toArray listed := by
            unfold Region.ready
            refine List.mem_filter.2 ⟨by simp; omega, ?_⟩
            have e1 : listed.getD i true = false := by
              have : i < listed.size := by omega
              simp [Array.getD_eq_getD_getElem?, this] at hh ⊢
              exact hh
            have hlt : i < l.length := by omega
            have e2 : l.toArray[i]? = some l[i] := by simp
            rw [e1, e2]
            simp only [Bool.not_false, Bool.true_and, Option.map_some, Option.getD_some]
            rw [Array.all_eq_true_iff_forall_mem]
            intro e hme
            by_cases hbd : Region.binds .any e = true
            · have : e.on ∈ depsOf l[i] := List.mem_map.2 ⟨e, List.mem_filter.2 ⟨by simpa using hme, hbd⟩, rfl⟩
              have h2 := backB_at hb (i := i) (o := l[i]) (by simp) _ this
              simp [ih (by omega) e.on (by omega)]
            · simp [hbd]
          rw [hr] at hmem
          cases hmem
  intro fuel
  induction fuel with
  | zero =>
    intro listed a w hz hl hI
    have hall := leftN_zero _ (Nat.le_zero.1 hl)
    refine ⟨?_, he _ a w hall hI⟩
    refine List.eq_nil_iff_forall_not_mem.2 fun i hi => ?_
    unfold Region.ready at hi
    obtain ⟨h1, h2⟩ := List.mem_filter.1 hi
    have hlt : i < l.length := by simpa using h1
    have h3 := hall i hlt
    have : i < listed.size := by omega
    simp [Array.getD_eq_getD_getElem?, this] at h3 h2
    rw [h3] at h2
    exact absurd h2.1 (by simp)
  | succ fuel ih =>
    intro listed a w hz hl hI
    refine ⟨fun hr => he _ a w (hfull listed hz hr l.length (Nat.le_refl _)) hI, fun i hi => ?_⟩
    have hi' := hi
    unfold Region.ready at hi'
    obtain ⟨h1, h2⟩ := List.mem_filter.1 hi'
    have hlt : i < l.length := by simpa using h1
    have hlz : i < listed.size := by omega
    have e2 : l.toArray[i]? = some l[i] := by simp
    rw [e2] at h2
    simp only [Option.map_some, Option.getD_some, Bool.and_eq_true] at h2
    have hL : listed.getD i false = false := by
      have := h2.1
      simp [Array.getD_eq_getD_getElem?, hlz] at this ⊢
      exact this
    have hdeps : allOn (fun j => listed.getD j false) (depsOf l[i]) := allOn_mem fun d hd => by
      obtain ⟨e, he1, rfl⟩ := List.mem_map.1 hd
      obtain ⟨he2, he3⟩ := List.mem_filter.1 he1
      have := (Array.all_eq_true_iff_forall_mem.1 h2.2) e (by simpa using he2)
      simpa [he3] using this
    have hstep := InvSteps.at hs (i := i) (o := l[i]) (by simp)
    rw [Nat.zero_add] at hstep
    refine wpOp_step e2 fun K' hK => ?_
    refine hstep _ a w hL hdeps hI K' ?_
    intro a' w' hI'
    refine hK a' w' (ih _ a' w' (by simp [hz]) ?_ ?_)
    · rw [upd_listed hlz]
      have := leftN_upd (L := fun j => listed.getD j false) hL l.length hlt
      omega
    · rw [upd_listed hlz]; exact hI'

/-- a region whose order is drawn, by an invariant -/
theorem wp_region_inv {id : Nat} {l : List Oper} {a : Act} {w : World} (I : Act → (Nat → Bool) → Act → World → Prop) (hm : P.follows .mixedOrders = true) (hb : backB 0 l = true)
    (h0 : I a (fun _ => false) a w.drew) (hs : InvSteps P l.toArray Q (I a) 0 l) (he : ∀ (L : Nat → Bool) a' w', (∀ i, i < l.length → L i = true) → I a L a' w' → Q .normal a' w') : (Code.region id l.toArray true).wp P Q a w := by
  refine wp_region_any hm ?_
  have hfun : (fun j => (Array.replicate l.toArray.size false).getD j false) = fun _ => false := by
    funext j
    simp [Array.getD_eq_getD_getElem?, Array.getElem?_replicate]
    by_cases h : j < l.length <;> simp [h]
  have hle : ∀ n, leftN (fun _ => false) n ≤ n := by
    intro n
    induction n with
    | zero => simp [leftN]
    | succ n ih => simp [leftN]; exact ih
  refine wpAny_inv hb hs he _ _ _ _ (by simp) ?_ ?_
  · rw [hfun]; simpa using hle l.length
  · rw [hfun]; exact h0
end
end Go.Proofs.Ytndcbnnbgedgcaa

/-
  The region 'T{n, append(append([]Lot{}, f.Lots...), x)}' by an invariant: what holds behind each set of its operations.
-/
set_option linter.unusedVariables false
set_option linter.unusedSimpArgs false
namespace Go.Proofs.Ytndcbnnbgedgcaa
open Go.RowKit

theorem grownBy_alloc (w : World) (o : Obj) : w.grownBy (w.alloc o) none := ⟨rfl, rfl, rfl, by simp, fun k hk _ => Below.heap_alloc _ _ _ hk⟩
theorem OwnLots.ltX {C : Nat} {w : World} {v : Value} {ls : List Lot} (h : OwnLots C w v ls) : ∀ k, v.ownBlock = some k → C ≤ k ∧ k < w.heap.size := by
  obtain ⟨vals, h1, _⟩ := h
  exact fun k hk => h1.lt k hk
theorem OwnLots.allocX {C : Nat} {w : World} {v : Value} {ls : List Lot} (h : OwnLots C w v ls) (hC : C ≤ w.heap.size) (o : Obj) : OwnLots C (w.alloc o) v ls := h.below (box_below' w o) hC
theorem OwnLots.setX {C p : Nat} {w : World} {v : Value} {ls : List Lot} (h : OwnLots C w v ls) (hC : C ≤ w.heap.size) (hp : C ≤ p) (hne : v.ownBlock ≠ some p) (i : Nat) (u : Value) : OwnLots C (w.setCell ⟨p, i, none⟩ u) v ls :=
  h.kept (grown_setCell w ⟨p, i, none⟩ u) (fun k hk => by cases hk; exact hp) hC (.inr hne)

/-- what holds behind BoundsMore's region of two appends -/
def MoreCut (w1 : World) (ls : List Lot) (v19 : Value) (v5 : Value) (wx : World) : Prop :=
  ∃ (p n c : Nat) (a : Option Addr), v5 = .pointer (some ⟨p, 0, none⟩) ∧ w1.heap.size ≤ p ∧ CellsN wx p #[v19, .slice a n c] ∧ OwnLots w1.heap.size wx (.slice a n c) ls ∧ Below w1.heap.size w1 wx

/-- the invariant -/
structure AI (w1 : World) (ls : List Lot) (x : Lot) (v18 v19 v21 v22 v24 : Value) (lc : Array Value) (L : Nat → Bool) (x5 x18 x19 x20 x21 x22 x23 x24 x25 x26 x27 : Value) (w : World) : Prop where
  hb : Below w1.heap.size w1 w
  h0 : L 0 = true → x18 = v18
  h1 : L 1 = true → x19 = v19
  h2 : L 2 = true → L 5 = false → OwnLots w1.heap.size w x20 []
  h3 : L 3 = true → x21 = v21
  h4 : L 4 = true → x22 = v22
  h5 : L 5 = true → L 8 = false → OwnLots w1.heap.size w x23 ls
  h6 : L 6 = true → x24 = v24
  h7 : L 7 = true → L 8 = false → ∃ g, x25 = .slice (some ⟨g, 0, none⟩) 1 1 ∧ w1.heap.size ≤ g ∧ CellsN w g lc ∧ x20.ownBlock ≠ some g ∧ x23.ownBlock ≠ some g
  h8 : L 8 = true → OwnLots w1.heap.size w x26 (ls ++ [x])
  h9 : L 9 = true → x27 = .agg #[v19, x26]
  h10 : L 10 = true → L 11 = false → ∃ p, x5 = .pointer (some ⟨p, 0, none⟩) ∧ w1.heap.size ≤ p ∧ CellsN w p #[.int .i64 0, .slice none 0 0] ∧ x20.ownBlock ≠ some p ∧ x23.ownBlock ≠ some p ∧ x26.ownBlock ≠ some p
  h11 : L 11 = true → MoreCut w1 (ls ++ [x]) v19 x5 w
  l20 : ∀ k, x20.ownBlock = some k → k < w.heap.size
  l23 : ∀ k, x23.ownBlock = some k → k < w.heap.size
  l26 : ∀ k, x26.ownBlock = some k → k < w.heap.size
  c8 : L 8 = true → L 5 = true ∧ L 7 = true
  c9 : L 9 = true → L 8 = true
  c11 : L 11 = true → L 9 = true ∧ L 10 = true ∧ L 8 = true ∧ L 6 = true ∧ L 4 = true ∧ L 3 = true ∧ L 2 = true ∧ L 1 = true ∧ L 0 = true

section
variable {w1 : World} {ls : List Lot} {x : Lot} {v18 v19 v21 v22 v24 : Value} {lc : Array Value} {L : Nat → Bool} {x5 x18 x19 x20 x21 x22 x23 x24 x25 x26 x27 : Value} {w : World}

theorem AI.size (h : AI w1 ls x v18 v19 v21 v22 v24 lc L x5 x18 x19 x20 x21 x22 x23 x24 x25 x26 x27 w) : w1.heap.size ≤ w.heap.size := h.hb.size

theorem AI.start (h20 : x20.ownBlock = none) (h23 : x23.ownBlock = none) (h26 : x26.ownBlock = none) : AI w1 ls x v18 v19 v21 v22 v24 lc (fun _ => false) x5 x18 x19 x20 x21 x22 x23 x24 x25 x26 x27 w1.drew :=
  { hb := (Below.refl _ _).drew, h0 := (by intro h; cases h), h1 := (by intro h; cases h), h2 := (by intro h; cases h), h3 := (by intro h; cases h), h4 := (by intro h; cases h), h5 := (by intro h; cases h), h6 := (by intro h; cases h),
    h7 := (by intro h; cases h), h8 := (by intro h; cases h), h9 := (by intro h; cases h), h10 := (by intro h; cases h), h11 := (by intro h; cases h), l20 := (by simp [h20]), l23 := (by simp [h23]), l26 := (by simp [h26]),
    c8 := (by intro h; cases h), c9 := (by intro h; cases h), c11 := (by intro h; cases h) }

variable (h : AI w1 ls x v18 v19 v21 v22 v24 lc L x5 x18 x19 x20 x21 x22 x23 x24 x25 x26 x27 w)
include h
theorem AI.s0 (hi : L 0 = false) : AI w1 ls x v18 v19 v21 v22 v24 lc (upd L 0) x5 v18 x19 x20 x21 x22 x23 x24 x25 x26 x27 w :=
  { hb := h.hb, h0 := (fun _ => rfl), h1 := h.h1, h2 := h.h2, h3 := h.h3, h4 := h.h4, h5 := h.h5, h6 := h.h6, h7 := h.h7, h8 := h.h8, h9 := h.h9, h10 := h.h10, h11 := h.h11, l20 := h.l20, l23 := h.l23, l26 := h.l26, c8 := h.c8, c9 := h.c9,
    c11 := (fun e => by have := (h.c11 e).2.2.2.2.2.2.2.2; rw [hi] at this; cases this) }
theorem AI.s1 (hi : L 1 = false) : AI w1 ls x v18 v19 v21 v22 v24 lc (upd L 1) x5 x18 v19 x20 x21 x22 x23 x24 x25 x26 x27 w :=
  { hb := h.hb, h0 := h.h0, h1 := (fun _ => rfl), h2 := h.h2, h3 := h.h3, h4 := h.h4, h5 := h.h5, h6 := h.h6, h7 := h.h7, h8 := h.h8, h9 := h.h9, h10 := h.h10, h11 := h.h11, l20 := h.l20, l23 := h.l23, l26 := h.l26, c8 := h.c8, c9 := h.c9,
    c11 := (fun e => by have := (h.c11 e).2.2.2.2.2.2.2.1; rw [hi] at this; cases this) }
theorem AI.s3 (hi : L 3 = false) : AI w1 ls x v18 v19 v21 v22 v24 lc (upd L 3) x5 x18 x19 x20 v21 x22 x23 x24 x25 x26 x27 w :=
  { hb := h.hb, h0 := h.h0, h1 := h.h1, h2 := h.h2, h3 := (fun _ => rfl), h4 := h.h4, h5 := h.h5, h6 := h.h6, h7 := h.h7, h8 := h.h8, h9 := h.h9, h10 := h.h10, h11 := h.h11, l20 := h.l20, l23 := h.l23, l26 := h.l26, c8 := h.c8, c9 := h.c9,
    c11 := (fun e => by have := (h.c11 e).2.2.2.2.2.1; rw [hi] at this; cases this) }
theorem AI.s4 (hi : L 4 = false) : AI w1 ls x v18 v19 v21 v22 v24 lc (upd L 4) x5 x18 x19 x20 x21 v22 x23 x24 x25 x26 x27 w :=
  { hb := h.hb, h0 := h.h0, h1 := h.h1, h2 := h.h2, h3 := h.h3, h4 := (fun _ => rfl), h5 := h.h5, h6 := h.h6, h7 := h.h7, h8 := h.h8, h9 := h.h9, h10 := h.h10, h11 := h.h11, l20 := h.l20, l23 := h.l23, l26 := h.l26, c8 := h.c8, c9 := h.c9,
    c11 := (fun e => by have := (h.c11 e).2.2.2.2.1; rw [hi] at this; cases this) }
theorem AI.s6 (hi : L 6 = false) : AI w1 ls x v18 v19 v21 v22 v24 lc (upd L 6) x5 x18 x19 x20 x21 x22 x23 v24 x25 x26 x27 w :=
  { hb := h.hb, h0 := h.h0, h1 := h.h1, h2 := h.h2, h3 := h.h3, h4 := h.h4, h5 := h.h5, h6 := (fun _ => rfl), h7 := h.h7, h8 := h.h8, h9 := h.h9, h10 := h.h10, h11 := h.h11, l20 := h.l20, l23 := h.l23, l26 := h.l26, c8 := h.c8, c9 := h.c9,
    c11 := (fun e => by have := (h.c11 e).2.2.2.1; rw [hi] at this; cases this) }
theorem AI.s9 (hi : L 9 = false) (h8 : L 8 = true) : AI w1 ls x v18 v19 v21 v22 v24 lc (upd L 9) x5 x18 x19 x20 x21 x22 x23 x24 x25 x26 (.agg #[v19, x26]) w :=
  { hb := h.hb, h0 := h.h0, h1 := h.h1, h2 := h.h2, h3 := h.h3, h4 := h.h4, h5 := h.h5, h6 := h.h6, h7 := h.h7, h8 := h.h8, h9 := (fun _ => rfl), h10 := h.h10, h11 := h.h11, l20 := h.l20, l23 := h.l23, l26 := h.l26, c8 := h.c8, c9 := (fun _ => h8),
    c11 := (fun e => by have := (h.c11 e).1; rw [hi] at this; cases this) }
/-- a new block -/
theorem AI.more (hi : L 11 = false) (o : Obj) : AI w1 ls x v18 v19 v21 v22 v24 lc L x5 x18 x19 x20 x21 x22 x23 x24 x25 x26 x27 (w.alloc o) :=
  { hb := h.hb.alloc h.size o, h0 := h.h0, h1 := h.h1, h2 := (fun a b => (h.h2 a b).allocX h.size o), h3 := h.h3, h4 := h.h4, h5 := (fun a b => (h.h5 a b).allocX h.size o), h6 := h.h6,
    h7 := (fun a b => by obtain ⟨g, e1, e2, e3, e4, e5⟩ := h.h7 a b; exact ⟨g, e1, e2, e3.alloc o, e4, e5⟩), h8 := (fun a => (h.h8 a).allocX h.size o), h9 := h.h9,
    h10 := (fun a b => by obtain ⟨g, e1, e2, e3, e4, e5, e6⟩ := h.h10 a b; exact ⟨g, e1, e2, e3.alloc o, e4, e5, e6⟩), h11 := (fun e => by rw [hi] at e; cases e),
    l20 := (fun k hk => by have := h.l20 k hk; simp; omega), l23 := (fun k hk => by have := h.l23 k hk; simp; omega), l26 := (fun k hk => by have := h.l26 k hk; simp; omega), c8 := h.c8, c9 := h.c9, c11 := h.c11 }
theorem AI.no11 {i : Nat} (hi : L i = false) (hm : i = 2 ∨ i = 5 ∨ i = 7 ∨ i = 8 ∨ i = 10) : L 11 = false := by
  cases h11 : L 11 with
  | false => rfl
  | true =>
    obtain ⟨e9, e10, e8, e6, e4, e3, e2, e1, e0⟩ := h.c11 h11
    obtain ⟨e5, e7⟩ := h.c8 e8
    rcases hm with rfl | rfl | rfl | rfl | rfl <;> simp_all
theorem AI.s2 (hi : L 2 = false) : AI w1 ls x v18 v19 v21 v22 v24 lc (upd L 2) x5 x18 x19 (.slice (some ⟨w.heap.size, 0, none⟩) 0 0) x21 x22 x23 x24 x25 x26 x27 (w.alloc (.cells #[] 45)) := by
  have hno := h.no11 hi (by simp)
  have h' := h.more hno (.cells #[] 45)
  exact {
    hb := h'.hb, h0 := h'.h0, h1 := h'.h1, h2 := (fun _ _ => OwnLots.made rfl h.size), h3 := h'.h3, h4 := h'.h4, h5 := h'.h5, h6 := h'.h6,
    h7 := (fun a b => by obtain ⟨g, e1, e2, e3, e4, e5⟩ := h.h7 a b; exact ⟨g, e1, e2, e3.alloc _, (by have := e3.lt; simp [Value.ownBlock]; omega), e5⟩), h8 := h'.h8, h9 := h'.h9,
    h10 := (fun a b => by obtain ⟨g, e1, e2, e3, e4, e5, e6⟩ := h.h10 a b; exact ⟨g, e1, e2, e3.alloc _, (by have := e3.lt; simp [Value.ownBlock]; omega), e5, e6⟩), h11 := h'.h11,
    l20 := (fun k hk => by simp [Value.ownBlock] at hk; simp; omega), l23 := h'.l23, l26 := h'.l26, c8 := h'.c8, c9 := h'.c9, c11 := (fun e => by rw [show upd L 2 11 = L 11 from rfl, hno] at e; cases e) }
theorem AI.s7 (hi : L 7 = false) (t : TypeId) : AI w1 ls x v18 v19 v21 v22 v24 lc (upd L 7) x5 x18 x19 x20 x21 x22 x23 x24 (.slice (some ⟨w.heap.size, 0, none⟩) 1 1) x26 x27 (w.alloc (.cells lc t)) := by
  have hno := h.no11 hi (by simp)
  have h' := h.more hno (.cells lc t)
  exact {
    hb := h'.hb, h0 := h'.h0, h1 := h'.h1, h2 := h'.h2, h3 := h'.h3, h4 := h'.h4, h5 := h'.h5, h6 := h'.h6,
    h7 := (fun _ _ => ⟨w.heap.size, rfl, h.size, CellsN.new w lc t, (fun e => by have := h.l20 _ e; omega), (fun e => by have := h.l23 _ e; omega)⟩), h8 := h'.h8, h9 := h'.h9, h10 := h'.h10, h11 := h'.h11,
    l20 := h'.l20, l23 := h'.l23, l26 := h'.l26, c8 := (fun e => ⟨(h'.c8 e).1, rfl⟩), c9 := h'.c9, c11 := (fun e => by rw [show upd L 7 11 = L 11 from rfl, hno] at e; cases e) }
theorem AI.s10 (hi : L 10 = false) (t : TypeId) : AI w1 ls x v18 v19 v21 v22 v24 lc (upd L 10) (.pointer (some ⟨w.heap.size, 0, none⟩)) x18 x19 x20 x21 x22 x23 x24 x25 x26 x27 (w.alloc (.cells #[.int .i64 0, .slice none 0 0] t)) := by
  have hno := h.no11 hi (by simp)
  have h' := h.more hno (.cells #[.int .i64 0, .slice none 0 0] t)
  exact {
    hb := h'.hb, h0 := h'.h0, h1 := h'.h1, h2 := h'.h2, h3 := h'.h3, h4 := h'.h4, h5 := h'.h5, h6 := h'.h6, h7 := h'.h7, h8 := h'.h8, h9 := h'.h9,
    h10 := (fun _ _ => ⟨w.heap.size, rfl, h.size, CellsN.new w _ t, (fun e => by have := h.l20 _ e; omega), (fun e => by have := h.l23 _ e; omega), (fun e => by have := h.l26 _ e; omega)⟩), h11 := (fun e => by rw [show upd L 10 11 = L 11 from rfl, hno] at e; cases e),
    l20 := h'.l20, l23 := h'.l23, l26 := h'.l26, c8 := h'.c8, c9 := h'.c9, c11 := (fun e => by rw [show upd L 10 11 = L 11 from rfl, hno] at e; cases e) }
theorem AI.s5 (hi : L 5 = false) (h2 : L 2 = true) {v' : Value} {w' : World} (ho : OwnLots w1.heap.size w' v' ls) (hg : w.grownBy w' x20.ownBlock) (hat : v'.ownBlock = x20.ownBlock ∨ v'.ownBlock = some w.heap.size) :
    AI w1 ls x v18 v19 v21 v22 v24 lc (upd L 5) x5 x18 x19 x20 x21 x22 v' x24 x25 x26 x27 w' := by
  have hno := h.no11 hi (by simp)
  have hlo := (h.h2 h2 hi).ltX
  have hn8 : L 8 = false := by
    cases e : L 8 with
    | false => rfl
    | true => have := (h.c8 e).1; rw [hi] at this; cases this
  have hn9 : L 9 = false := by
    cases e : L 9 with
    | false => rfl
    | true => have := h.c9 e; rw [hn8] at this; cases this
  exact {
    hb := h.hb.grown hg h.size (fun k hk => (hlo k hk).1), h0 := h.h0, h1 := h.h1, h2 := (fun _ e => by cases e), h3 := h.h3, h4 := h.h4, h5 := (fun _ _ => ho), h6 := h.h6,
    h7 := (fun a b => by
      obtain ⟨g, e1, e2, e3, e4, e5⟩ := h.h7 a b
      refine ⟨g, e1, e2, e3.grown hg (fun e => e4 e.symm), e4, ?_⟩
      rcases hat with e | e
      · rw [e]; exact e4
      · rw [e]; intro e'; have := e3.lt; simp at e'; omega), h8 := (fun e => by rw [show upd L 5 8 = L 8 from rfl, hn8] at e; cases e), h9 := (fun e => by rw [show upd L 5 9 = L 9 from rfl, hn9] at e; cases e),
    h10 := (fun a b => by
      obtain ⟨g, e1, e2, e3, e4, e5, e6⟩ := h.h10 a b
      refine ⟨g, e1, e2, e3.grown hg (fun e => e4 e.symm), e4, ?_, e6⟩
      rcases hat with e | e
      · rw [e]; exact e4
      · rw [e]; intro e'; have := e3.lt; simp at e'; omega), h11 := (fun e => by rw [show upd L 5 11 = L 11 from rfl, hno] at e; cases e),
    l20 := (fun k hk => by have := h.l20 k hk; have := hg.size; omega), l23 := (fun k hk => (ho.ltX k hk).2), l26 := (fun k hk => by have := h.l26 k hk; have := hg.size; omega),
    c8 := (fun e => by rw [show upd L 5 8 = L 8 from rfl, hn8] at e; cases e), c9 := h.c9, c11 := (fun e => by rw [show upd L 5 11 = L 11 from rfl, hno] at e; cases e) }
theorem AI.s8 (hi : L 8 = false) (h5 : L 5 = true) (h7 : L 7 = true) {v' : Value} {w' : World} (ho : OwnLots w1.heap.size w' v' (ls ++ [x])) (hg : w.grownBy w' x23.ownBlock) (hat : v'.ownBlock = x23.ownBlock ∨ v'.ownBlock = some w.heap.size) :
    AI w1 ls x v18 v19 v21 v22 v24 lc (upd L 8) x5 x18 x19 x20 x21 x22 x23 x24 x25 v' x27 w' := by
  have hno := h.no11 hi (by simp)
  have hlo := (h.h5 h5 hi).ltX
  have hn9 : L 9 = false := by
    cases e : L 9 with
    | false => rfl
    | true => have := h.c9 e; rw [hi] at this; cases this
  exact {
    hb := h.hb.grown hg h.size (fun k hk => (hlo k hk).1), h0 := h.h0, h1 := h.h1, h2 := (fun _ e => by rw [show upd L 8 5 = L 5 from rfl, h5] at e; cases e), h3 := h.h3, h4 := h.h4, h5 := (fun _ e => by cases e), h6 := h.h6,
    h7 := (fun _ e => by cases e), h8 := (fun _ => ho), h9 := (fun e => by rw [show upd L 8 9 = L 9 from rfl, hn9] at e; cases e),
    h10 := (fun a b => by
      obtain ⟨g, e1, e2, e3, e4, e5, e6⟩ := h.h10 a b
      refine ⟨g, e1, e2, e3.grown hg (fun e => e5 e.symm), e4, e5, ?_⟩
      rcases hat with e | e
      · rw [e]; exact e5
      · rw [e]; intro e'; have := e3.lt; simp at e'; omega), h11 := (fun e => by rw [show upd L 8 11 = L 11 from rfl, hno] at e; cases e),
    l20 := (fun k hk => by have := h.l20 k hk; have := hg.size; omega), l23 := (fun k hk => by have := h.l23 k hk; have := hg.size; omega), l26 := (fun k hk => (ho.ltX k hk).2),
    c8 := (fun _ => ⟨h5, h7⟩), c9 := (fun _ => rfl), c11 := (fun e => by rw [show upd L 8 11 = L 11 from rfl, hno] at e; cases e) }
theorem AI.s11 (hi : L 11 = false) (h9 : L 9 = true) (h10 : L 10 = true) (hs : ∀ i, i < 11 → L i = true) {p n c : Nat} {a : Option Addr} (hp : x5 = .pointer (some ⟨p, 0, none⟩)) (he : x26 = .slice a n c) :
    AI w1 ls x v18 v19 v21 v22 v24 lc (upd L 11) x5 x18 x19 x20 x21 x22 x23 x24 x25 x26 x27 ((w.setCell ⟨p, 0, none⟩ v19).setCell ⟨p, 1, none⟩ (.slice a n c)) := by
  obtain ⟨p', e1, e2, e3, e4, e5, e6⟩ := h.h10 h10 hi
  rw [hp] at e1
  obtain rfl : p = p' := by simpa using e1
  have h8 := hs 8 (by omega)
  have hz := h.size
  have o1 := (h.h8 h8).setX hz e2 e6 0 v19
  have o2 := o1.setX (by simpa [World.setCell] using hz) e2 e6 1 (.slice a n c)
  have b1 := (h.hb.setCell (p := ⟨p, 0, none⟩) e2 v19).setCell (p := ⟨p, 1, none⟩) e2 (.slice a n c)
  have k1 := (e3.set 0 v19).set 1 (.slice a n c)
  exact {
    hb := b1, h0 := h.h0, h1 := h.h1, h2 := (fun _ e => by rw [show upd L 11 5 = L 5 from rfl, hs 5 (by omega)] at e; cases e), h3 := h.h3, h4 := h.h4, h5 := (fun _ e => by rw [show upd L 11 8 = L 8 from rfl, h8] at e; cases e), h6 := h.h6,
    h7 := (fun _ e => by rw [show upd L 11 8 = L 8 from rfl, h8] at e; cases e), h8 := (fun _ => o2), h9 := h.h9, h10 := (fun _ e => by cases e),
    h11 := (fun _ => ⟨p, n, c, a, hp, e2, (by simpa using k1), (by rw [← he]; rw [← he] at o2; exact o2), b1⟩),
    l20 := (fun k hk => by have := h.l20 k hk; simpa [World.setCell] using this), l23 := (fun k hk => by have := h.l23 k hk; simpa [World.setCell] using this), l26 := (fun k hk => by have := h.l26 k hk; simpa [World.setCell] using this),
    c8 := h.c8, c9 := h.c9, c11 := (fun _ => ⟨hs 9 (by omega), hs 10 (by omega), hs 8 (by omega), hs 6 (by omega), hs 4 (by omega), hs 3 (by omega), hs 2 (by omega), hs 1 (by omega), hs 0 (by omega)⟩) }
end
end Go.Proofs.Ytndcbnnbgedgcaa

/-
  Layer 28: the walk of BoundsMore.
-/
set_option linter.unusedVariables false
set_option linter.unusedSimpArgs false
namespace Go.Proofs.Ytndcbnnbgedgcaa
open Go.RowKit

theorem few28_fewM {f : Flow} (h : few28 f = true) : f.senders ≤ 6 ∨ 12 < f.senders := by
  unfold few28 at h
  simp at h
  omega
set_option maxHeartbeats 8000000 in
set_option maxRecDepth 100000 in
/-- BoundsMore -/
theorem boundsMore_any (B : Nat) (w : World) (vs vl vi vk vp : Value) (f : Flow) (x : Lot) (hf : IsFlow B w vs vl f) (hx : IsLot B w vi vk vp x) (hle : f.lots.length ≤ 2513169434843) (hB : B ≤ w.heap.size) :
    Calls Try.prog 10 #[.agg #[vs, vl], .agg #[vi, vk, vp]] w fun e w' => e = .returned (.bool true) ∧ Below w.heap.size w w' := by
  have HF := Lib.hid hf
  have HXL := Lib.hid hx
  obtain ⟨rfl, ⟨hs1, hs2⟩, hl⟩ := hf
  obtain ⟨b, off, cap, ⟨a, rfl, hcap, hmax, ha⟩, hlen, hc⟩ := hl
  obtain ⟨hxi, rfl, hxp⟩ := hx
  obtain ⟨bi, offi, capi, ⟨ai, rfl, hcapi, hmaxi, hai⟩, hleni, hzi, hci⟩ := hxi
  obtain ⟨bp, offp, capp, ⟨ap, rfl, hcapp, hmaxp, hap⟩, hlenp, hzp, hcp⟩ := hxp
  clear hc ha hci hai hzi hcp hap hzp
  go_enter Try.func10, Try.ntmps10
  go_wp2_with fail
  refine (sane28_any _).mono ?_
  rintro e w1 ⟨rfl, hb1⟩
  have HX1 := Lib.hid (((Box.new w #[.int .i64 f.senders, .slice a f.lots.length cap] 24).alloc (.cells #[.slice ai x.ins.length capi, .bool x.known, .slice ap x.perm.length capp] 45)).ext hb1)
  have HL1 := Lib.hid ((Box.new (w.alloc (.cells #[.int .i64 f.senders, .slice a f.lots.length cap] 24)) #[.slice ai x.ins.length capi, .bool x.known, .slice ap x.perm.length capp] 45).ext hb1)
  have HW1 : Hid (Below w.heap.size w w1) := Lib.hid ((((Below.refl _ w).alloc (Nat.le_refl _) _).alloc (by simp) _).trans (hb1.mono (by simp; omega)))
  obtain ⟨z1, r1⟩ := HX1.out
  obtain ⟨z2, r2⟩ := HL1.out
  rw [World.size_alloc] at z2 r2
  have hsz := hb1.size
  simp at hsz
  clear hb1
  have c0 := (r1 0)
  have c1 := (r1 1)
  have d0 := (r2 0)
  have d1 := (r2 1)
  have d2 := (r2 2)
  simp at c0 c1 d0 d1 d2
  have HKP : Hid (∀ W, Below w1.heap.size w1 W → W.cell? ⟨w.heap.size, 0, none⟩ = some (.int .i64 f.senders) ∧ W.cell? ⟨w.heap.size, 1, none⟩ = some (.slice a f.lots.length cap) ∧
      W.cell? ⟨w.heap.size + 1, 0, none⟩ = some (.slice ai x.ins.length capi) ∧ W.cell? ⟨w.heap.size + 1, 1, none⟩ = some (.bool x.known) ∧ W.cell? ⟨w.heap.size + 1, 2, none⟩ = some (.slice ap x.perm.length capp)) := Lib.hid fun W hW =>
    ⟨(hW.cell (p := ⟨w.heap.size, 0, none⟩) z1).trans c0, (hW.cell (p := ⟨w.heap.size, 1, none⟩) z1).trans c1, (hW.cell (p := ⟨w.heap.size + 1, 0, none⟩) z2).trans d0, (hW.cell (p := ⟨w.heap.size + 1, 1, none⟩) z2).trans d1, (hW.cell (p := ⟨w.heap.size + 1, 2, none⟩) z2).trans d2⟩
  have HSF : Hid (∀ W, Below w1.heap.size w1 W → SrcLots w1.heap.size W (.slice a f.lots.length cap) f.lots) := Lib.hid fun W hW => (HF.out.2.2.below (HW1.out.trans (hW.mono (by omega))) hB).src (by omega)
  have HIL : Hid (∀ W, Below w1.heap.size w1 W → IsLot w1.heap.size W (.slice ai x.ins.length capi) (.bool x.known) (.slice ap x.perm.length capp) x) := Lib.hid fun W hW => by
    have h1 := HXL.out.1.below (HW1.out.trans (hW.mono (by omega))) hB
    have h3 := HXL.out.2.2.below (HW1.out.trans (hW.mono (by omega))) hB
    exact ⟨h1.mono (by omega), rfl, h3.mono (by omega)⟩
  go_upto_region 3 with fail
  go_cut [5] from 18 to 27 (fun v5 wx => MoreCut w1 (f.lots ++ [x]) (.int .i64 f.senders) v5 wx)
  case first =>
    refine wp_region_inv (fun a0 L a' w' => ∃ x5 x18 x19 x20 x21 x22 x23 x24 x25 x26 x27, a' = (((((((((((a0.put (some 5) x5).put (some 18) x18).put (some 19) x19).put (some 20) x20).put (some 21) x21).put (some 22) x22).put (some 23) x23).put (some 24) x24).put (some 25) x25).put (some 26) x26).put (some 27) x27) ∧ AI w1 f.lots x (.pointer (some ⟨w.heap.size, 0, none⟩)) (.int .i64 f.senders) (.pointer (some ⟨w.heap.size, 1, none⟩)) (.slice a f.lots.length cap) (.agg #[.slice ai x.ins.length capi, .bool x.known, .slice ap x.perm.length capp]) #[.slice ai x.ins.length capi, .bool x.known, .slice ap x.perm.length capp] L x5 x18 x19 x20 x21 x22 x23 x24 x25 x26 x27 w') (by kernel_rfl) (by kernel_rfl) ?_ ?_ ?_
    focus
      refine ⟨undef, undef, undef, undef, undef, undef, undef, undef, undef, undef, undef, ?_, AI.start ?_ ?_ ?_⟩
      focus simp only [Act.put, List.setIfInBounds_toArray, List.set_cons_zero, List.set_cons_succ]
      all_goals rfl
    focus
      refine ⟨?_, ?_, ?_, ?_, ?_, ?_, ?_, ?_, ?_, ?_, ?_, ?_, trivial⟩
      all_goals
        intro L a' w' hi hd hI K hK
        obtain ⟨x5, x18, x19, x20, x21, x22, x23, x24, x25, x26, x27, he, hA⟩ := hI
        simp only [Act.put, List.setIfInBounds_toArray, List.set_cons_zero, List.set_cons_succ] at he
        subst he
      focus
        go_simp
        refine hK.out _ _ ⟨x5, (.pointer (some ⟨w.heap.size, 0, none⟩)), x19, x20, x21, x22, x23, x24, x25, x26, x27, ?_, ?_⟩
        focus simp only [Act.put, List.setIfInBounds_toArray, List.set_cons_zero, List.set_cons_succ]
        exact hA.s0 hi
      focus
        obtain ⟨d0, _⟩ := hd
        obtain rfl := hA.h0 d0
        obtain ⟨c0, c1, d0, d1, d2⟩ := HKP.out _ hA.hb
        go_simp
        refine hK.out _ _ ⟨x5, (.pointer (some ⟨w.heap.size, 0, none⟩)), (.int .i64 f.senders), x20, x21, x22, x23, x24, x25, x26, x27, ?_, ?_⟩
        focus simp only [Act.put, List.setIfInBounds_toArray, List.set_cons_zero, List.set_cons_succ]
        exact hA.s1 hi
      focus
        go_simp
        refine hK.out _ _ ⟨x5, x18, x19, (.slice (some ⟨w'.heap.size, 0, none⟩) 0 0), x21, x22, x23, x24, x25, x26, x27, ?_, ?_⟩
        focus simp only [Act.put, List.setIfInBounds_toArray, List.set_cons_zero, List.set_cons_succ]
        exact hA.s2 hi
      focus
        go_simp
        refine hK.out _ _ ⟨x5, x18, x19, x20, (.pointer (some ⟨w.heap.size, 1, none⟩)), x22, x23, x24, x25, x26, x27, ?_, ?_⟩
        focus simp only [Act.put, List.setIfInBounds_toArray, List.set_cons_zero, List.set_cons_succ]
        exact hA.s3 hi
      focus
        obtain ⟨d0, _⟩ := hd
        obtain rfl := hA.h3 d0
        obtain ⟨c0, c1, d0, d1, d2⟩ := HKP.out _ hA.hb
        go_simp
        refine hK.out _ _ ⟨x5, x18, x19, x20, (.pointer (some ⟨w.heap.size, 1, none⟩)), (.slice a f.lots.length cap), x23, x24, x25, x26, x27, ?_, ?_⟩
        focus simp only [Act.put, List.setIfInBounds_toArray, List.set_cons_zero, List.set_cons_succ]
        exact hA.s4 hi
      focus
        obtain ⟨d2, d4, _⟩ := hd
        obtain rfl := hA.h4 d4
        refine step_append_lots ?_ (.tmp 20) (.tmp 22) ?_ (C := w1.heap.size) (v := x20) (vx := .slice a f.lots.length cap) (xs := []) (ys := f.lots) ?_ ?_ ?_ ?_ ?_ ?_ ?_
        focus rfl
        focus rfl
        focus rfl
        focus exact hA.h2 d2 hi
        focus rfl
        focus exact HSF.out _ hA.hb
        focus (simp; omega)
        focus exact hA.size
        intro v5 w5 ho5 hg5 hat5
        refine hK.out _ _ ⟨x5, x18, x19, x20, x21, (.slice a f.lots.length cap), v5, x24, x25, x26, x27, ?_, ?_⟩
        focus simp only [Act.put, List.setIfInBounds_toArray, List.set_cons_zero, List.set_cons_succ]
        exact hA.s5 hi d2 (by simpa using ho5) hg5 hat5
      focus
        obtain ⟨c0, c1, d0, d1, d2⟩ := HKP.out _ hA.hb
        go_simp
        refine hK.out _ _ ⟨x5, x18, x19, x20, x21, x22, x23, (.agg #[.slice ai x.ins.length capi, .bool x.known, .slice ap x.perm.length capp]), x25, x26, x27, ?_, ?_⟩
        focus simp only [Act.put, List.setIfInBounds_toArray, List.set_cons_zero, List.set_cons_succ]
        exact hA.s6 hi
      focus
        obtain ⟨d6, _⟩ := hd
        obtain rfl := hA.h6 d6
        go_simp
        refine hK.out _ _ ⟨x5, x18, x19, x20, x21, x22, x23, (.agg #[.slice ai x.ins.length capi, .bool x.known, .slice ap x.perm.length capp]), (.slice (some ⟨w'.heap.size, 0, none⟩) 1 1), x26, x27, ?_, ?_⟩
        focus simp only [Act.put, List.setIfInBounds_toArray, List.set_cons_zero, List.set_cons_succ]
        exact hA.s7 hi _
      focus
        obtain ⟨d5, d7, _⟩ := hd
        obtain ⟨g, rfl, hg1, hg2, hg3, hg4⟩ := hA.h7 d7 hi
        have hsrc := srcLots_one (c := 1) (hg2.cell 0) (hg2.cell 1) (hg2.cell 2) (HIL.out _ hA.hb)
        refine step_append_lots ?_ (.tmp 23) (.tmp 25) ?_ (C := w1.heap.size) (v := x23) (vx := .slice (some ⟨g, 0, none⟩) 1 1) (xs := f.lots) (ys := [x]) ?_ ?_ ?_ ?_ ?_ ?_ ?_
        focus rfl
        focus rfl
        focus rfl
        focus exact hA.h5 d5 hi
        focus rfl
        focus exact hsrc
        focus (simp; omega)
        focus exact hA.size
        intro v5 w5 ho5 hg5 hat5
        refine hK.out _ _ ⟨x5, x18, x19, x20, x21, x22, x23, x24, (.slice (some ⟨g, 0, none⟩) 1 1), v5, x27, ?_, ?_⟩
        focus simp only [Act.put, List.setIfInBounds_toArray, List.set_cons_zero, List.set_cons_succ]
        exact hA.s8 hi d5 d7 ho5 hg5 hat5
      focus
        obtain ⟨d1, d8, _⟩ := hd
        obtain rfl := hA.h1 d1
        obtain ⟨n6, c6, a6, rfl⟩ : ∃ n c a, x26 = .slice a n c := by obtain ⟨a6, c6, e⟩ := (hA.h8 d8).form; exact ⟨_, _, _, e⟩
        go_simp
        refine hK.out _ _ ⟨x5, x18, (.int .i64 f.senders), x20, x21, x22, x23, x24, x25, (.slice a6 n6 c6), (.agg #[.int .i64 f.senders, .slice a6 n6 c6]), ?_, ?_⟩
        focus simp only [Act.put, List.setIfInBounds_toArray, List.set_cons_zero, List.set_cons_succ]
        exact hA.s9 hi d8
      focus
        go_simp
        refine hK.out _ _ ⟨(.pointer (some ⟨w'.heap.size, 0, none⟩)), x18, x19, x20, x21, x22, x23, x24, x25, x26, x27, ?_, ?_⟩
        focus simp only [Act.put, List.setIfInBounds_toArray, List.set_cons_zero, List.set_cons_succ]
        exact hA.s10 hi _
      focus
        obtain ⟨d10, d9, d8, d0, d1, d2, d3, d4, d5, d6, d7, d8', d9', d10', _⟩ := hd
        obtain ⟨p, rfl, e2, e3, e4, e5, e6⟩ := hA.h10 d10 hi
        obtain rfl := hA.h9 d9
        obtain ⟨n6, c6, a6, rfl⟩ : ∃ n c a, x26 = .slice a n c := by obtain ⟨a6, c6, e⟩ := (hA.h8 d8).form; exact ⟨_, _, _, e⟩
        have m0 := e3.cell 0
        have m1 := e3.cell 1
        have g0 := e3.free 0
        have g1 := e3.free 1
        simp at m0 m1
        go_simp
        refine hK.out _ _ ⟨(.pointer (some ⟨p, 0, none⟩)), x18, x19, x20, x21, x22, x23, x24, x25, (.slice a6 n6 c6), (.agg #[.int .i64 f.senders, .slice a6 n6 c6]), ?_, ?_⟩
        focus simp only [Act.put, List.setIfInBounds_toArray, List.set_cons_zero, List.set_cons_succ]
        exact hA.s11 hi d9 d10 (fun i hi => by rcases (by omega : i = 0 ∨ i = 1 ∨ i = 2 ∨ i = 3 ∨ i = 4 ∨ i = 5 ∨ i = 6 ∨ i = 7 ∨ i = 8 ∨ i = 9 ∨ i = 10) with rfl | rfl | rfl | rfl | rfl | rfl | rfl | rfl | rfl | rfl | rfl <;> assumption) rfl rfl
    focus
      intro L a' w' hall hI
      obtain ⟨x5, x18, x19, x20, x21, x22, x23, x24, x25, x26, x27, he, hA⟩ := hI
      simp only [Act.put, List.setIfInBounds_toArray, List.set_cons_zero, List.set_cons_succ] at he
      subst he
      have hfin := hA.h11 (hall 11 (by decide))
      clear hA hall
      go_wp2_with fail
      go_meet
      exact hfin
  case rest =>
    obtain ⟨p, n, c, a5, rfl, hp1, hp2, ho, hbw⟩ := hcut
    obtain ⟨W, rfl⟩ : ∃ W, W = wc := ⟨_, rfl⟩
    have HG := Lib.hid (ho.isLots hbw.size)
    have HOF := Lib.hid ho.form
    have hplt := hp2.lt
    have HP0 := Lib.hid hp2.box
    have HXW := Lib.hid (HX1.out.below hbw z1)
    have HLW := Lib.hid (HL1.out.below hbw (by simpa using z2))
    have HWW : Hid (Below w.heap.size w W) := Lib.hid (HW1.out.trans (hbw.mono (by omega)))
    have HIG : Hid (∀ V, Below W.heap.size W V → IsFlow W.heap.size V (.int .i64 f.senders) (.slice a5 n c) (extF f x)) := Lib.hid fun V hV => ⟨rfl, ⟨hs1, hs2⟩, (HG.out).below hV (Nat.le_refl _)⟩
    have HIF : Hid (∀ V, Below W.heap.size W V → IsFlow B V (.int .i64 f.senders) (.slice a f.lots.length cap) f) := Lib.hid fun V hV => HF.out.below (HWW.out.trans (hV.mono HWW.out.size)) hB
    have hzW : w.heap.size + 1 < W.heap.size := by have := hbw.size; omega
    clear ho hp2 c0 c1 d0 d1 d2 r1 r2 HKP HSF HIL hbw
    obtain ⟨zp, rp⟩ := HP0.out
    have HKP3 : Hid (∀ V, Below W.heap.size W V → V.cell? ⟨w.heap.size, 0, none⟩ = some (.int .i64 f.senders) ∧ V.cell? ⟨w.heap.size, 1, none⟩ = some (.slice a f.lots.length cap) ∧
      V.cell? ⟨w.heap.size + 1, 1, none⟩ = some (.bool x.known) ∧ V.cell? ⟨p, 0, none⟩ = some (.int .i64 f.senders) ∧ V.cell? ⟨p, 1, none⟩ = some (.slice a5 n c)) := Lib.hid fun V hV => by
      have h1 := HXW.out.below hV (by omega)
      have h2 := HLW.out.below hV (by simpa using hzW)
      have h3 := HP0.out.below hV zp
      have e2 := h2.2 1
      rw [World.size_alloc] at e2
      exact ⟨by simpa using h1.2 0, by simpa using h1.2 1, by simpa using e2, by simpa using h3.2 0, by simpa using h3.2 1⟩
    have HB0 : Hid (Below W.heap.size W W) := Lib.hid (Below.refl _ _)
    clear rp
    obtain ⟨k0, k1, k2, k3, k4⟩ := HKP3.out _ HB0.out
    go_wp2_with fail
    refine (few28_any W.heap.size W _ _ (extF f x) (HIG.out _ HB0.out) (Nat.le_refl _)).mono ?_
    rintro e w2 ⟨rfl, hb2⟩
    have HB2 : Hid (Below W.heap.size W w2) := Lib.hid (HB0.out.trans (hb2.mono HB0.out.size))
    clear hb2 k0 k1 k2 k3 k4
    obtain ⟨k0, k1, k2, k3, k4⟩ := HKP3.out _ HB2.out
    cases hfew : few28 (extF f x)
    focus
      clear hfew
      go_wp2
      go_ret
      exact ⟨rfl, HWW.out.trans (HB2.out.mono HWW.out.size)⟩
    have H6 := Lib.hid (few28_fewM hfew)
    clear hfew
    go_wp2_with fail
    refine (check25_any W.heap.size w2 _ _ (extF f x) (HIG.out _ HB2.out) (HB2.out.size)).mono ?_
    rintro e w3 ⟨rfl, hb3⟩
    have HB3 : Hid (Below W.heap.size W w3) := Lib.hid (HB2.out.trans (hb3.mono HB2.out.size))
    clear hb3 k0 k1 k2 k3 k4
    obtain ⟨k0, k1, k2, k3, k4⟩ := HKP3.out _ HB3.out
    by_cases hce : checkE (extF f x) = 0
    rotate_left
    focus
      have hne : (checkE (extF f x) != 0) = true := by simpa using hce
      clear hce
      go_wp2
      go_ret
      exact ⟨rfl, HWW.out.trans (HB3.out.mono HWW.out.size)⟩
    have HC0 := Lib.hid hce
    have hne : (checkE (extF f x) != 0) = false := by simp [hce]
    clear hce
    by_cases h6 : 6 < f.senders
    focus
      go_wp2
      go_ret
      exact ⟨rfl, HWW.out.trans (HB3.out.mono HWW.out.size)⟩
    have HLAW := Lib.hid (bounds_law HC0.out (by omega))
    go_wp2_with fail
    refine (bupper_any B w3 _ _ f (HIF.out _ HB3.out) (by have := HB3.out.size; have := HWW.out.size; omega) (.inl (by omega))).mono ?_
    rintro e w4 ⟨rfl, hb4⟩
    have HB4 : Hid (Below W.heap.size W w4) := Lib.hid (HB3.out.trans (hb4.mono HB3.out.size))
    clear hb4 k0 k1 k2 k3 k4
    obtain ⟨k0, k1, k2, k3, k4⟩ := HKP3.out _ HB4.out
    go_wp2_with fail
    refine (bupper_any W.heap.size w4 _ _ (extF f x) (HIG.out _ HB4.out) (HB4.out.size) H6.out).mono ?_
    rintro e w5 ⟨rfl, hb5⟩
    have HB5 : Hid (Below W.heap.size W w5) := Lib.hid (HB4.out.trans (hb5.mono HB4.out.size))
    clear hb5 k0 k1 k2 k3 k4
    obtain ⟨k0, k1, k2, k3, k4⟩ := HKP3.out _ HB5.out
    go_wp2_with fail
    refine (blower_any B w5 _ _ f (HIF.out _ HB5.out) (by have := HB5.out.size; have := HWW.out.size; omega)).mono ?_
    rintro e w6 ⟨v6, rfl, ho6, hb6⟩
    have HB6 : Hid (Below W.heap.size W w6) := Lib.hid (HB5.out.trans (hb6.mono HB5.out.size))
    have HO6 := Lib.hid ho6
    obtain ⟨a6, n6, c6, rfl⟩ := ho6.form'
    clear ho6
    clear hb6 k0 k1 k2 k3 k4
    obtain ⟨k0, k1, k2, k3, k4⟩ := HKP3.out _ HB6.out
    go_wp2_with fail
    refine (blower_any W.heap.size w6 _ _ (extF f x) (HIG.out _ HB6.out) (HB6.out.size)).mono ?_
    rintro e w7 ⟨v7, rfl, ho7, hb7⟩
    have HB7 : Hid (Below W.heap.size W w7) := Lib.hid (HB6.out.trans (hb7.mono HB6.out.size))
    have HO7 := Lib.hid ho7.isInts
    have HO67 := Lib.hid ((HO6.out.below hb7).isInts)
    obtain ⟨a7, n7, c7, rfl⟩ := ho7.form'
    clear ho7
    clear hb7 k0 k1 k2 k3 k4
    obtain ⟨k0, k1, k2, k3, k4⟩ := HKP3.out _ HB7.out
    obtain ⟨l1, l2, l3, l4, l5, l6⟩ := HLAW.out
    have g1 : (upperE f != 0) = false := by simp [l1]
    have g2 : (upperE (extF f x) != 0) = false := by simp [l2]
    have g3 : (lowerE f != 0) = false := by simp [l3]
    have g4 : (lowerE (extF f x) != 0) = false := by simp [l4]
    have HL5 := Lib.hid l5
    have HL6 := Lib.hid l6
    clear l1 l2 l3 l4 l5 l6
    have HWE : Hid (Below w.heap.size w w7) := Lib.hid (HWW.out.trans (HB7.out.mono HWW.out.size))
    rcases Bool.eq_false_or_eq_true x.known with hkn | hkn
    rotate_left
    focus
      rw [hkn] at k2
      clear hkn
      have hge : decide (upperR f ≤ upperR (extF f x)) = true := by simpa using HL5.out
      go_wp2
      go_ret
      refine ⟨?_, HWE.out⟩
      first | rfl | simp [HL5.out]
    obtain ⟨l1, l2, l3⟩ := HL6.out hkn
    have g5 : (upperR f == upperR (extF f x)) = true := by simp [l1]
    have g6 : (lowerR f == lowerR (extF f x)) = true := by simp [l2]
    have HL3 := Lib.hid l3
    rw [hkn] at k2
    clear l1 l2 l3 hkn
    go_wp2_with fail
    refine (same_any _ _ _ _ _ _ HO67.out HO7.out).mono ?_
    rintro e w8 ⟨rfl, hd⟩
    have HS : Hid (sameB (lowerL f) (lowerL (extF f x)) = true) := Lib.hid (by rw [HL3.out]; unfold sameB; simp)
    rw [HS.out]
    have HW8 : Hid (Below w.heap.size w w8) := Lib.hid (HWE.out.trans (hd.below _))
    clear hd
    go_wp2
    go_ret
    exact ⟨rfl, HW8.out⟩

end Go.Proofs.Ytndcbnnbgedgcaa

/-
  BoundsMore holds: for all arguments the law returns true, and the arguments read as before.
  No condition beyond the row's own cells.
-/
set_option linter.unusedVariables false
set_option linter.unusedSimpArgs false
namespace Go.Proofs.Ytndcbnnbgedgcaa
open Go.ChangeShapes Go.WideShapes Go.ChangeAt Go.RowKit

theorem boundsMore_own : ownKnob Try.prog.godebug = none := by kernel_rfl
theorem boundsMore_laid : laidOutB Try.prog = true := by kernel_rfl

set_option maxRecDepth 100000 in
theorem boundsMore_lifted (os : Os) (started : os.Started) (H : Type) (enc : TypeId × Value → H) :
    ReturnsInHanded {} Try.checked os 10 .any (Rows.boundsMoreSpec.pre6 enc Try.prog Try.f10 Rows.boundsMoreRow.domain false) (Rows.boundsMoreSpec.post enc Try.prog Try.f10 false true false false) := by
  refine returnsInHanded_of_change_sized (C := Try.checked) boundsMore_own started (by kernel_rfl) Try.func10
    (ChangeSpec.witness6 (enc := enc) (C := Try.checked) false ⟨#[], #[.agg #[.int .i64 0, .slice none 0 0], .agg #[.slice none 0 0, .bool false, .slice none 0 0]], []⟩ 8 (by kernel_rfl) (by kernel_rfl) (by kernel_rfl) (by kernel_rfl)) ?_
  intro W base args ds gs before hval0 hW hcnd hsz0 _
  have hsz : (DataW.weightsEach Try.prog (Try.f10.params.toList ++ Rows.boundsMoreSpec.plain.varTypes Try.prog) (ds ++ gs)).all (· ≤ reachBytes) = true := hsz0
  have hval : ∀ (j : Nat) t v, Try.f10.params[j]? = some t → args[j]? = some v → Value.okWide Try.prog W .any base t v := hval0
  have hW' := hW
  obtain ⟨p, q, hA0, hV, rfl, hfz, hnd⟩ := hW
  have hA : DataW.TrodAll enc Try.prog W 0 (fun _ => true) true Try.f10.params.toList args.toList ds p := hA0
  rw [Try.params10] at hA hval hsz
  obtain ⟨v0, vs0, d0, ds0, p0, q0, e0, rfl, rfl, h0, r0⟩ := trodAll_cons hA
  obtain ⟨v1, vs1, d1, ds1, p1, q1, rfl, rfl, rfl, h1, r1⟩ := trodAll_cons r0
  obtain ⟨rfl, rfl, rfl⟩ := trodAll_nil r1
  obtain rfl : args = #[v0, v1] := by cases args; simp_all
  obtain ⟨rfl, rfl⟩ := trodVars_none hV
  have hw : ∀ n ∈ DataW.weightsEach Try.prog [24, 45] [d0, d1], n ≤ reachBytes := by
    intro n hn
    have := List.all_eq_true.1 hsz n hn
    simpa using this
  obtain ⟨vsf, vlf, f, rfl, h_f, hle_f⟩ := open_IsFlow_le (hval 0 24 v0 rfl rfl) h0 (fun n hn => hw n (DataW.weights_mem_each (j := 0) (t := 24) rfl rfl n hn))
  obtain ⟨vix, vkx, vpx, x, rfl, h_x⟩ := open_IsLot' (hval 1 45 v1 rfl rfl) h1 (fun n hn => hw n (DataW.weights_mem_each (j := 1) (t := 45) rfl rfl n hn))
  have hlt := hW'.lt
  simp only [List.append_nil] at hW' hlt
  refine (boundsMore_any W.heap.size W _ _ _ _ _ f x h_f h_x hle_f (Nat.le_refl _)).mono fun e W' ⟨he, hb⟩ => ?_
  subst he
  refine ⟨_, rfl, _, _, _, [], p0 ++ (p1 ++ []), [], hW', trodAll_mk1 (shut_bool Try.underlying4 _), ?_, rfl, hb.frame _, fun h => by cases h⟩
  exact trodAll_cons_mk (hb.trod boundsMore_laid (by kernel_rfl) (of_decide_eq_true (by kernel_rfl)) h0 (fun x hx => hlt x (by simp [hx]))) 
    (trodAll_cons_mk (hb.trod boundsMore_laid (by kernel_rfl) (of_decide_eq_true (by kernel_rfl)) h1 (fun x hx => hlt x (by simp [hx]))) trodAll_mk0)

theorem boundsMore_holds : Rows.BoundsMoreSaid :=
  OpenClaim.holds_of_wide 10 Try.f10 rfl rfl rfl rfl rfl rfl rfl ⟨rfl, rfl, rfl, rfl, rfl⟩ rfl rfl rfl rfl rfl (by kernel_rfl) Try.func10 (by kernel_rfl)
    (of_decide_eq_true (by kernel_rfl)) (by unfold Func.isWrapper; first | (rw [if_pos (by decide +kernel)]; kernel_rfl) | (rw [if_neg (by decide +kernel)]; exact ⟨rfl, rfl⟩))
    (fun os started H enc _ => boundsMore_lifted os started H enc)

end Go.Proofs.Ytndcbnnbgedgcaa
