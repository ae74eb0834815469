/-
  BoundsSpec holds: for all arguments the law returns true, and the arguments read as before.
  No condition beyond the row's own cells.
-/
import Derived.Test.YtndcbnnbgedgcaaG28e
import Derived.Test.YtndcbnnbgedgcaaOpen
import Derived.OpenShut
/-
  The walk of frankinglaw28.sane.
-/
set_option linter.unusedVariables false
set_option linter.unusedSimpArgs false
namespace Go.Proofs.Ytndcbnnbgedgcaa
open Go.RowKit

theorem litInts {B b cap : Nat} {w : World} {xs : List Int} {v : Value} (hv : v = .slice (some ⟨b, 0, none⟩) xs.length cap) (hc : xs.length ≤ cap) (hm : cap ≤ 1000) (h64 : ∀ x ∈ xs, I64 x) (hb : b < B)
    (hx : Box w b (xs.map (Value.int .i64 ·)).toArray) : IsInts B w v xs := by
  refine ⟨b, 0, cap, ⟨_, hv, hc, by omega, Or.inl rfl⟩, by omega, h64, fun j hj => ⟨hb, ?_⟩⟩
  rw [hx.2]
  simp [nth_eq_getElem hj, hj]
theorem noInts {B : Nat} {w : World} : IsInts B w (.slice none 0 0) [] :=
  ⟨0, 0, 0, ⟨_, rfl, by simp, by omega, Or.inr rfl⟩, by simp, by simp, fun j hj => by simp at hj⟩
theorem noLots {B : Nat} {w : World} : IsLots B w (.slice none 0 0) [] :=
  ⟨0, 0, 0, ⟨_, rfl, by simp, by omega, Or.inr rfl⟩, by simp, fun j hj => by simp at hj⟩
theorem oneLot {B b : Nat} {w : World} {xs ys : List Int} {kn : Bool} {v u : Value} (hx : Box w b #[v, .bool kn, u]) (hb : b < B) (h1 : IsInts B w v xs) (h2 : IsInts B w u ys) : IsLots B w (.slice (some ⟨b, 0, none⟩) 1 1) [⟨xs, kn, ys⟩] := by
  refine ⟨b, 0, 1, ⟨_, rfl, by simp, by omega, Or.inl rfl⟩, by simp, fun j hj => ?_⟩
  obtain rfl : j = 0 := by simp at hj; omega
  exact ⟨_, _, _, ⟨hb, by rw [hx.2]; rfl⟩, ⟨hb, by rw [hx.2]; rfl⟩, ⟨hb, by rw [hx.2]; rfl⟩, h1, rfl, h2⟩
theorem twoLots {B b : Nat} {w : World} {xs ys xs' ys' : List Int} {kn kn' : Bool} {v u v' u' : Value} (hx : Box w b #[v, .bool kn, u, v', .bool kn', u']) (hb : b < B) (h1 : IsInts B w v xs) (h2 : IsInts B w u ys) (h3 : IsInts B w v' xs') (h4 : IsInts B w u' ys') : IsLots B w (.slice (some ⟨b, 0, none⟩) 2 2) [⟨xs, kn, ys⟩, ⟨xs', kn', ys'⟩] := by
  refine ⟨b, 0, 2, ⟨_, rfl, by simp, by omega, Or.inl rfl⟩, by simp, fun j hj => ?_⟩
  have hj2 : j = 0 ∨ j = 1 := by simp at hj; omega
  rcases hj2 with rfl | rfl
  · exact ⟨_, _, _, ⟨hb, by rw [hx.2]; rfl⟩, ⟨hb, by rw [hx.2]; rfl⟩, ⟨hb, by rw [hx.2]; rfl⟩, h1, rfl, h2⟩
  · exact ⟨_, _, _, ⟨hb, by rw [hx.2]; rfl⟩, ⟨hb, by rw [hx.2]; rfl⟩, ⟨hb, by rw [hx.2]; rfl⟩, h3, rfl, h4⟩

set_option maxRecDepth 100000 in
/-- frankinglaw28.unknown -/
theorem lawunknown_any (w : World) (v : Value) (hv : ∃ a n c, v = .slice a n c) :
    Calls Try.prog 55 #[v] w fun e w' => e = .returned (.agg #[v, .bool false, .slice none 0 0]) ∧ Below w.heap.size w w' := by
  obtain ⟨a, n, c, rfl⟩ := hv
  go_enter Try.func55, Try.ntmps55
  go_wp2
  have hX := Box.new w #[.slice a n c, .bool false, .slice none 0 0] 45
  have n0 := hX.2 0
  have n1 := hX.2 1
  have n2 := hX.2 2
  simp at n0 n1 n2
  exact bodyPost_ret (v := .agg #[.slice a n c, .bool false, .slice none 0 0]) (by simp [results, Try.results55, go_sem, n0, n1, n2]) rfl ⟨rfl, box_below' w _⟩

set_option maxHeartbeats 4000000 in
set_option maxRecDepth 100000 in
/-- sane -/
theorem sane28_any (w : World) : Calls Try.prog 25 #[] w fun e w' => e = .returned (.bool true) ∧ Below w.heap.size w w' := by
  go_enter Try.func25, Try.ntmps25
  go_wp2_with fail
  refine (bupper_any w.heap.size w _ _ exV ⟨rfl, by simp [exV, I64], noLots⟩ (Nat.le_refl _) (by right; decide)).mono ?_
  rintro e w1 ⟨rfl, hb1⟩
  rw [exV_ans.1, exV_ans.2]
  have HB1 := Lib.hid hb1
  clear hb1
  have HL0 : Hid (IsLots (w1.heap.size + 1) (w1.alloc (.cells #[.slice none 0 0, .bool false, .slice none 0 0] 45)) (.slice (some ⟨w1.heap.size, 0, none⟩) 1 1) [⟨[], false, []⟩]) := Lib.hid (oneLot (Box.new w1 _ _) (by omega) noInts noInts)
  have HT0 : Hid (Below w.heap.size w (w1.alloc (.cells #[.slice none 0 0, .bool false, .slice none 0 0] 45))) := Lib.hid (HB1.out.alloc HB1.out.size _)
  go_wp2_with fail
  refine (blower_any (w1.heap.size + 1) _ _ _ exW ⟨rfl, by simp [exW, I64], HL0.out⟩ (by simp)).mono ?_
  rintro e w2 ⟨v2, rfl, ho2, hb2⟩
  rw [exW_ans.1, exW_ans.2.2]
  obtain ⟨a2, n2, c2, rfl⟩ := ho2.form'
  have HB2 : Hid (Below w.heap.size w w2) := Lib.hid (HT0.out.trans (hb2.mono HT0.out.size))
  clear hb2 ho2 HL0 HT0
  have HT3 : Hid (Below w.heap.size w w2) := Lib.hid (HB2.out)
  have HQ3 : Hid (Below w2.heap.size w2 w2) := Lib.hid (Below.refl w2.heap.size w2)
  have HF3 : Hid (IsFlow (w2.heap.size) w2 (.int .i64 3) (.slice none 0 0) exP) := Lib.hid ⟨rfl, by simp [exP, I64], noLots⟩
  have HL3 : Hid (IsInts (w2.heap.size) w2 (.slice none 0 0) []) := Lib.hid (noInts)
  go_wp2_with fail
  refine (isall_any (w2.heap.size) _ _ _ _ exP 1 1 [] HF3.out HL3.out (by simp) (by left; decide) (by simp) (by omega) (by omega) exP_all).mono ?_
  rintro e w3 ⟨rfl, hb3⟩
  have HB3 : Hid (Below w.heap.size w w3) := Lib.hid (HT3.out.trans (hb3.mono HT3.out.size))
  clear hb3 HT3 HQ3
  have HT4 : Hid (Below w.heap.size w (((w3.alloc (.cells #[.int .i64 0, .int .i64 1] 3)).alloc (.cells #[.int .i64 1, .int .i64 0] 3)).alloc (.cells #[.slice (some ⟨w3.heap.size, 0, none⟩) 2 2, .bool true, .slice (some ⟨w3.heap.size + 1, 0, none⟩) 2 2] 45))) := Lib.hid ((((HB3.out.alloc (by have := HB3.out.size; simp; omega) _).alloc (by have := HB3.out.size; simp; omega) _).alloc (by have := HB3.out.size; simp; omega) _))
  have HQ4 : Hid (Below w3.heap.size w3 (((w3.alloc (.cells #[.int .i64 0, .int .i64 1] 3)).alloc (.cells #[.int .i64 1, .int .i64 0] 3)).alloc (.cells #[.slice (some ⟨w3.heap.size, 0, none⟩) 2 2, .bool true, .slice (some ⟨w3.heap.size + 1, 0, none⟩) 2 2] 45))) := Lib.hid ((((Below.refl w3.heap.size w3).alloc (by simp; try omega) _).alloc (by simp; try omega) _).alloc (by simp; try omega) _)
  have HF4 : Hid (IsFlow (w3.heap.size + 1 + 1 + 1) (((w3.alloc (.cells #[.int .i64 0, .int .i64 1] 3)).alloc (.cells #[.int .i64 1, .int .i64 0] 3)).alloc (.cells #[.slice (some ⟨w3.heap.size, 0, none⟩) 2 2, .bool true, .slice (some ⟨w3.heap.size + 1, 0, none⟩) 2 2] 45)) (.int .i64 2) (.slice (some ⟨w3.heap.size + 1 + 1, 0, none⟩) 1 1) exQ) := Lib.hid ⟨rfl, by simp [exQ, I64], oneLot (by have h := Box.new ((w3.alloc (.cells #[.int .i64 0, .int .i64 1] 3)).alloc (.cells #[.int .i64 1, .int .i64 0] 3)) #[.slice (some ⟨w3.heap.size, 0, none⟩) 2 2, .bool true, .slice (some ⟨w3.heap.size + 1, 0, none⟩) 2 2] 45; simpa using h) (by omega) (litInts rfl (by decide) (by omega) (by simp [I64]) (by omega) (((Box.new w3 #[.int .i64 0, .int .i64 1] 3).alloc _).alloc _)) (litInts (b := w3.heap.size + 1) rfl (by decide) (by omega) (by simp [I64]) (by omega) (by have h := (Box.new (w3.alloc (.cells #[.int .i64 0, .int .i64 1] 3)) #[.int .i64 1, .int .i64 0] 3).alloc (.cells #[.slice (some ⟨w3.heap.size, 0, none⟩) 2 2, .bool true, .slice (some ⟨w3.heap.size + 1, 0, none⟩) 2 2] 45); simpa using h))⟩
  have HL4 : Hid (IsInts (w3.heap.size + 1 + 1 + 1) (((w3.alloc (.cells #[.int .i64 0, .int .i64 1] 3)).alloc (.cells #[.int .i64 1, .int .i64 0] 3)).alloc (.cells #[.slice (some ⟨w3.heap.size, 0, none⟩) 2 2, .bool true, .slice (some ⟨w3.heap.size + 1, 0, none⟩) 2 2] 45)) (.slice none 0 0) []) := Lib.hid (noInts)
  go_wp2_with fail
  refine (isall_any (w3.heap.size + 1 + 1 + 1) _ _ _ _ exQ 1 1 [] HF4.out HL4.out (by simp) (by left; decide) (by simp) (by omega) (by omega) exQ_all).mono ?_
  rintro e w4 ⟨rfl, hb4⟩
  have HB4 : Hid (Below w.heap.size w w4) := Lib.hid (HT4.out.trans (hb4.mono HT4.out.size))
  clear hb4 HT4 HQ4
  have HT5 : Hid (Below w.heap.size w (w4.alloc (.cells #[.int .i64 0, .int .i64 2] 3))) := Lib.hid (HB4.out.alloc HB4.out.size _)
  have HV5 : Hid (IsInts (w4.heap.size + 1) (w4.alloc (.cells #[.int .i64 0, .int .i64 2] 3)) (.slice (some ⟨w4.heap.size, 0, none⟩) 2 2) [0, 2]) := Lib.hid (litInts rfl (by decide) (by omega) (by simp [I64]) (by omega) (Box.new w4 #[.int .i64 0, .int .i64 2] 3))
  go_wp2_with fail
  refine (lawunknown_any _ _ ⟨_, _, _, rfl⟩).mono ?_
  rintro e w5 ⟨rfl, hb5⟩
  have HB5 : Hid (Below w.heap.size w w5) := Lib.hid (HT5.out.trans (hb5.mono HT5.out.size))
  have HU5 : Hid (IsInts w5.heap.size w5 (.slice (some ⟨w4.heap.size, 0, none⟩) 2 2) [0, 2]) := Lib.hid ((HV5.out.below hb5 (by simp)).mono (by have := hb5.size; simpa using this))
  have HI5 : Hid (Below (w4.heap.size + 1) (w4.alloc (.cells #[.int .i64 0, .int .i64 2] 3)) w5) := Lib.hid (by simpa using hb5)
  clear hb5 HT5
  have HT6 : Hid (Below w.heap.size w ((w5.alloc (.cells #[.slice (some ⟨w4.heap.size, 0, none⟩) 2 2, .bool false, .slice none 0 0] 45)).alloc (.cells #[.int .i64 0] 3))) := Lib.hid (((HB5.out.alloc (by have := HB5.out.size; simp; omega) _).alloc (by have := HB5.out.size; simp; omega) _))
  have HQ6 : Hid (Below w5.heap.size w5 ((w5.alloc (.cells #[.slice (some ⟨w4.heap.size, 0, none⟩) 2 2, .bool false, .slice none 0 0] 45)).alloc (.cells #[.int .i64 0] 3))) := Lib.hid (((Below.refl w5.heap.size w5).alloc (by simp; try omega) _).alloc (by simp; try omega) _)
  have HF6 : Hid (IsFlow (w5.heap.size + 1 + 1) ((w5.alloc (.cells #[.slice (some ⟨w4.heap.size, 0, none⟩) 2 2, .bool false, .slice none 0 0] 45)).alloc (.cells #[.int .i64 0] 3)) (.int .i64 3) (.slice (some ⟨w5.heap.size, 0, none⟩) 1 1) exR) := Lib.hid ⟨rfl, by simp [exR, I64], oneLot ((Box.new w5 #[.slice (some ⟨w4.heap.size, 0, none⟩) 2 2, .bool false, .slice none 0 0] 45).alloc _) (by omega) ((HU5.out.below HQ6.out (Nat.le_refl _)).mono (by omega)) noInts⟩
  have HL6 : Hid (IsInts (w5.heap.size + 1 + 1) ((w5.alloc (.cells #[.slice (some ⟨w4.heap.size, 0, none⟩) 2 2, .bool false, .slice none 0 0] 45)).alloc (.cells #[.int .i64 0] 3)) (.slice (some ⟨w5.heap.size + 1, 0, none⟩) 1 1) [0]) := Lib.hid (litInts (b := w5.heap.size + 1) (cap := 1) rfl (by decide) (by omega) (by simp [I64]) (by omega) (by have h := Box.new (w5.alloc (.cells #[.slice (some ⟨w4.heap.size, 0, none⟩) 2 2, .bool false, .slice none 0 0] 45)) #[.int .i64 0] 3; simpa using h))
  go_wp2_with fail
  refine (isall_any (w5.heap.size + 1 + 1) _ _ _ _ exR 2 2 [0] HF6.out HL6.out (by simp) (by left; decide) (by simp) (by omega) (by omega) exR_all).mono ?_
  rintro e w6 ⟨rfl, hb6⟩
  have HB6 : Hid (Below w.heap.size w w6) := Lib.hid (HT6.out.trans (hb6.mono HT6.out.size))
  clear hb6 HT6 HQ6
  have HT7 : Hid (Below w.heap.size w (w6.alloc (.cells #[.int .i64 0, .int .i64 1, .int .i64 2, .int .i64 3] 3))) := Lib.hid (HB6.out.alloc HB6.out.size _)
  have HV7 : Hid (IsInts (w6.heap.size + 1) (w6.alloc (.cells #[.int .i64 0, .int .i64 1, .int .i64 2, .int .i64 3] 3)) (.slice (some ⟨w6.heap.size, 0, none⟩) 4 4) [0, 1, 2, 3]) := Lib.hid (litInts rfl (by decide) (by omega) (by simp [I64]) (by omega) (Box.new w6 #[.int .i64 0, .int .i64 1, .int .i64 2, .int .i64 3] 3))
  go_wp2_with fail
  refine (lawunknown_any _ _ ⟨_, _, _, rfl⟩).mono ?_
  rintro e w7 ⟨rfl, hb7⟩
  have HB7 : Hid (Below w.heap.size w w7) := Lib.hid (HT7.out.trans (hb7.mono HT7.out.size))
  have HU7 : Hid (IsInts w7.heap.size w7 (.slice (some ⟨w6.heap.size, 0, none⟩) 4 4) [0, 1, 2, 3]) := Lib.hid ((HV7.out.below hb7 (by simp)).mono (by have := hb7.size; simpa using this))
  have HI7 : Hid (Below (w6.heap.size + 1) (w6.alloc (.cells #[.int .i64 0, .int .i64 1, .int .i64 2, .int .i64 3] 3)) w7) := Lib.hid (by simpa using hb7)
  clear hb7 HT7
  have HT8 : Hid (Below w.heap.size w ((w7.alloc (.cells #[.slice (some ⟨w6.heap.size, 0, none⟩) 4 4, .bool false, .slice none 0 0] 45)).alloc (.cells #[.int .i64 0] 3))) := Lib.hid (((HB7.out.alloc (by have := HB7.out.size; simp; omega) _).alloc (by have := HB7.out.size; simp; omega) _))
  have HQ8 : Hid (Below w7.heap.size w7 ((w7.alloc (.cells #[.slice (some ⟨w6.heap.size, 0, none⟩) 4 4, .bool false, .slice none 0 0] 45)).alloc (.cells #[.int .i64 0] 3))) := Lib.hid (((Below.refl w7.heap.size w7).alloc (by simp; try omega) _).alloc (by simp; try omega) _)
  have HF8 : Hid (IsFlow (w7.heap.size + 1 + 1) ((w7.alloc (.cells #[.slice (some ⟨w6.heap.size, 0, none⟩) 4 4, .bool false, .slice none 0 0] 45)).alloc (.cells #[.int .i64 0] 3)) (.int .i64 4) (.slice (some ⟨w7.heap.size, 0, none⟩) 1 1) exS) := Lib.hid ⟨rfl, by simp [exS, I64], oneLot ((Box.new w7 #[.slice (some ⟨w6.heap.size, 0, none⟩) 4 4, .bool false, .slice none 0 0] 45).alloc _) (by omega) ((HU7.out.below HQ8.out (Nat.le_refl _)).mono (by omega)) noInts⟩
  have HL8 : Hid (IsInts (w7.heap.size + 1 + 1) ((w7.alloc (.cells #[.slice (some ⟨w6.heap.size, 0, none⟩) 4 4, .bool false, .slice none 0 0] 45)).alloc (.cells #[.int .i64 0] 3)) (.slice (some ⟨w7.heap.size + 1, 0, none⟩) 1 1) [0]) := Lib.hid (litInts (b := w7.heap.size + 1) (cap := 1) rfl (by decide) (by omega) (by simp [I64]) (by omega) (by have h := Box.new (w7.alloc (.cells #[.slice (some ⟨w6.heap.size, 0, none⟩) 4 4, .bool false, .slice none 0 0] 45)) #[.int .i64 0] 3; simpa using h))
  go_wp2_with fail
  refine (isall_any (w7.heap.size + 1 + 1) _ _ _ _ exS 24 24 [0] HF8.out HL8.out (by simp) (by left; decide) (by simp) (by omega) (by omega) exS_all).mono ?_
  rintro e w8 ⟨rfl, hb8⟩
  have HB8 : Hid (Below w.heap.size w w8) := Lib.hid (HT8.out.trans (hb8.mono HT8.out.size))
  clear hb8 HT8 HQ8
  have HT9 : Hid (Below w.heap.size w (w8.alloc (.cells #[.int .i64 0, .int .i64 1] 3))) := Lib.hid (HB8.out.alloc HB8.out.size _)
  have HV9 : Hid (IsInts (w8.heap.size + 1) (w8.alloc (.cells #[.int .i64 0, .int .i64 1] 3)) (.slice (some ⟨w8.heap.size, 0, none⟩) 2 2) [0, 1]) := Lib.hid (litInts rfl (by decide) (by omega) (by simp [I64]) (by omega) (Box.new w8 #[.int .i64 0, .int .i64 1] 3))
  go_wp2_with fail
  refine (lawunknown_any _ _ ⟨_, _, _, rfl⟩).mono ?_
  rintro e w9 ⟨rfl, hb9⟩
  have HB9 : Hid (Below w.heap.size w w9) := Lib.hid (HT9.out.trans (hb9.mono HT9.out.size))
  have HU9 : Hid (IsInts w9.heap.size w9 (.slice (some ⟨w8.heap.size, 0, none⟩) 2 2) [0, 1]) := Lib.hid ((HV9.out.below hb9 (by simp)).mono (by have := hb9.size; simpa using this))
  have HI9 : Hid (Below (w8.heap.size + 1) (w8.alloc (.cells #[.int .i64 0, .int .i64 1] 3)) w9) := Lib.hid (by simpa using hb9)
  clear hb9 HT9
  have HT10 : Hid (Below w.heap.size w (w9.alloc (.cells #[.int .i64 2, .int .i64 3] 3))) := Lib.hid (HB9.out.alloc HB9.out.size _)
  have HV10 : Hid (IsInts (w9.heap.size + 1) (w9.alloc (.cells #[.int .i64 2, .int .i64 3] 3)) (.slice (some ⟨w9.heap.size, 0, none⟩) 2 2) [2, 3]) := Lib.hid (litInts rfl (by decide) (by omega) (by simp [I64]) (by omega) (Box.new w9 #[.int .i64 2, .int .i64 3] 3))
  go_wp2_with fail
  refine (lawunknown_any _ _ ⟨_, _, _, rfl⟩).mono ?_
  rintro e w10 ⟨rfl, hb10⟩
  have HB10 : Hid (Below w.heap.size w w10) := Lib.hid (HT10.out.trans (hb10.mono HT10.out.size))
  have HU10 : Hid (IsInts w10.heap.size w10 (.slice (some ⟨w9.heap.size, 0, none⟩) 2 2) [2, 3]) := Lib.hid ((HV10.out.below hb10 (by simp)).mono (by have := hb10.size; simpa using this))
  have HI10 : Hid (Below (w9.heap.size + 1) (w9.alloc (.cells #[.int .i64 2, .int .i64 3] 3)) w10) := Lib.hid (by simpa using hb10)
  clear hb10 HT10
  have HU9b : Hid (IsInts w10.heap.size w10 (.slice (some ⟨w8.heap.size, 0, none⟩) 2 2) [0, 1]) := Lib.hid (((HU9.out.below (box_below' w9 (.cells #[.int .i64 2, .int .i64 3] 3)) (Nat.le_refl _)).below HI10.out (by omega)).mono (by have := HI10.out.size; simp at this; omega))
  have HT11 : Hid (Below w.heap.size w ((w10.alloc (.cells #[.slice (some ⟨w8.heap.size, 0, none⟩) 2 2, .bool false, .slice none 0 0, .slice (some ⟨w9.heap.size, 0, none⟩) 2 2, .bool false, .slice none 0 0] 45)).alloc (.cells #[.int .i64 0, .int .i64 1] 3))) := Lib.hid (((HB10.out.alloc (by have := HB10.out.size; simp; omega) _).alloc (by have := HB10.out.size; simp; omega) _))
  have HQ11 : Hid (Below w10.heap.size w10 ((w10.alloc (.cells #[.slice (some ⟨w8.heap.size, 0, none⟩) 2 2, .bool false, .slice none 0 0, .slice (some ⟨w9.heap.size, 0, none⟩) 2 2, .bool false, .slice none 0 0] 45)).alloc (.cells #[.int .i64 0, .int .i64 1] 3))) := Lib.hid (((Below.refl w10.heap.size w10).alloc (by simp; try omega) _).alloc (by simp; try omega) _)
  have HF11 : Hid (IsFlow (w10.heap.size + 1 + 1) ((w10.alloc (.cells #[.slice (some ⟨w8.heap.size, 0, none⟩) 2 2, .bool false, .slice none 0 0, .slice (some ⟨w9.heap.size, 0, none⟩) 2 2, .bool false, .slice none 0 0] 45)).alloc (.cells #[.int .i64 0, .int .i64 1] 3)) (.int .i64 4) (.slice (some ⟨w10.heap.size, 0, none⟩) 2 2) exT) := Lib.hid ⟨rfl, by simp [exT, I64], twoLots ((Box.new w10 #[.slice (some ⟨w8.heap.size, 0, none⟩) 2 2, .bool false, .slice none 0 0, .slice (some ⟨w9.heap.size, 0, none⟩) 2 2, .bool false, .slice none 0 0] 45).alloc _) (by omega) ((HU9b.out.below HQ11.out (Nat.le_refl _)).mono (by omega)) noInts ((HU10.out.below HQ11.out (Nat.le_refl _)).mono (by omega)) noInts⟩
  have HL11 : Hid (IsInts (w10.heap.size + 1 + 1) ((w10.alloc (.cells #[.slice (some ⟨w8.heap.size, 0, none⟩) 2 2, .bool false, .slice none 0 0, .slice (some ⟨w9.heap.size, 0, none⟩) 2 2, .bool false, .slice none 0 0] 45)).alloc (.cells #[.int .i64 0, .int .i64 1] 3)) (.slice (some ⟨w10.heap.size + 1, 0, none⟩) 2 2) [0, 1]) := Lib.hid (litInts (b := w10.heap.size + 1) (cap := 2) rfl (by decide) (by omega) (by simp [I64]) (by omega) (by have h := Box.new (w10.alloc (.cells #[.slice (some ⟨w8.heap.size, 0, none⟩) 2 2, .bool false, .slice none 0 0, .slice (some ⟨w9.heap.size, 0, none⟩) 2 2, .bool false, .slice none 0 0] 45)) #[.int .i64 0, .int .i64 1] 3; simpa using h))
  go_wp2_with fail
  refine (isall_any (w10.heap.size + 1 + 1) _ _ _ _ exT 4 4 [0, 1] HF11.out HL11.out (by simp) (by left; decide) (by simp) (by omega) (by omega) exT_all).mono ?_
  rintro e w11 ⟨rfl, hb11⟩
  have HB11 : Hid (Below w.heap.size w w11) := Lib.hid (HT11.out.trans (hb11.mono HT11.out.size))
  clear hb11 HT11 HQ11
  have HT12 : Hid (Below w.heap.size w (w11.alloc (.cells #[.int .i64 0, .int .i64 1, .int .i64 2] 3))) := Lib.hid (HB11.out.alloc HB11.out.size _)
  have HV12 : Hid (IsInts (w11.heap.size + 1) (w11.alloc (.cells #[.int .i64 0, .int .i64 1, .int .i64 2] 3)) (.slice (some ⟨w11.heap.size, 0, none⟩) 3 3) [0, 1, 2]) := Lib.hid (litInts rfl (by decide) (by omega) (by simp [I64]) (by omega) (Box.new w11 #[.int .i64 0, .int .i64 1, .int .i64 2] 3))
  go_wp2_with fail
  refine (lawunknown_any _ _ ⟨_, _, _, rfl⟩).mono ?_
  rintro e w12 ⟨rfl, hb12⟩
  have HB12 : Hid (Below w.heap.size w w12) := Lib.hid (HT12.out.trans (hb12.mono HT12.out.size))
  have HU12 : Hid (IsInts w12.heap.size w12 (.slice (some ⟨w11.heap.size, 0, none⟩) 3 3) [0, 1, 2]) := Lib.hid ((HV12.out.below hb12 (by simp)).mono (by have := hb12.size; simpa using this))
  have HI12 : Hid (Below (w11.heap.size + 1) (w11.alloc (.cells #[.int .i64 0, .int .i64 1, .int .i64 2] 3)) w12) := Lib.hid (by simpa using hb12)
  clear hb12 HT12
  have HT13 : Hid (Below w.heap.size w (w12.alloc (.cells #[.int .i64 3, .int .i64 4, .int .i64 5] 3))) := Lib.hid (HB12.out.alloc HB12.out.size _)
  have HV13 : Hid (IsInts (w12.heap.size + 1) (w12.alloc (.cells #[.int .i64 3, .int .i64 4, .int .i64 5] 3)) (.slice (some ⟨w12.heap.size, 0, none⟩) 3 3) [3, 4, 5]) := Lib.hid (litInts rfl (by decide) (by omega) (by simp [I64]) (by omega) (Box.new w12 #[.int .i64 3, .int .i64 4, .int .i64 5] 3))
  go_wp2_with fail
  refine (lawunknown_any _ _ ⟨_, _, _, rfl⟩).mono ?_
  rintro e w13 ⟨rfl, hb13⟩
  have HB13 : Hid (Below w.heap.size w w13) := Lib.hid (HT13.out.trans (hb13.mono HT13.out.size))
  have HU13 : Hid (IsInts w13.heap.size w13 (.slice (some ⟨w12.heap.size, 0, none⟩) 3 3) [3, 4, 5]) := Lib.hid ((HV13.out.below hb13 (by simp)).mono (by have := hb13.size; simpa using this))
  have HI13 : Hid (Below (w12.heap.size + 1) (w12.alloc (.cells #[.int .i64 3, .int .i64 4, .int .i64 5] 3)) w13) := Lib.hid (by simpa using hb13)
  clear hb13 HT13
  have HU12b : Hid (IsInts w13.heap.size w13 (.slice (some ⟨w11.heap.size, 0, none⟩) 3 3) [0, 1, 2]) := Lib.hid (((HU12.out.below (box_below' w12 (.cells #[.int .i64 3, .int .i64 4, .int .i64 5] 3)) (Nat.le_refl _)).below HI13.out (by omega)).mono (by have := HI13.out.size; simp at this; omega))
  have HT14 : Hid (Below w.heap.size w ((w13.alloc (.cells #[.slice (some ⟨w11.heap.size, 0, none⟩) 3 3, .bool false, .slice none 0 0, .slice (some ⟨w12.heap.size, 0, none⟩) 3 3, .bool false, .slice none 0 0] 45)).alloc (.cells #[.int .i64 1] 3))) := Lib.hid (((HB13.out.alloc (by have := HB13.out.size; simp; omega) _).alloc (by have := HB13.out.size; simp; omega) _))
  have HQ14 : Hid (Below w13.heap.size w13 ((w13.alloc (.cells #[.slice (some ⟨w11.heap.size, 0, none⟩) 3 3, .bool false, .slice none 0 0, .slice (some ⟨w12.heap.size, 0, none⟩) 3 3, .bool false, .slice none 0 0] 45)).alloc (.cells #[.int .i64 1] 3))) := Lib.hid (((Below.refl w13.heap.size w13).alloc (by simp; try omega) _).alloc (by simp; try omega) _)
  have HF14 : Hid (IsFlow (w13.heap.size + 1 + 1) ((w13.alloc (.cells #[.slice (some ⟨w11.heap.size, 0, none⟩) 3 3, .bool false, .slice none 0 0, .slice (some ⟨w12.heap.size, 0, none⟩) 3 3, .bool false, .slice none 0 0] 45)).alloc (.cells #[.int .i64 1] 3)) (.int .i64 3) (.slice (some ⟨w13.heap.size, 0, none⟩) 2 2) exU) := Lib.hid ⟨rfl, by simp [exU, I64], twoLots ((Box.new w13 #[.slice (some ⟨w11.heap.size, 0, none⟩) 3 3, .bool false, .slice none 0 0, .slice (some ⟨w12.heap.size, 0, none⟩) 3 3, .bool false, .slice none 0 0] 45).alloc _) (by omega) ((HU12b.out.below HQ14.out (Nat.le_refl _)).mono (by omega)) noInts ((HU13.out.below HQ14.out (Nat.le_refl _)).mono (by omega)) noInts⟩
  have HL14 : Hid (IsInts (w13.heap.size + 1 + 1) ((w13.alloc (.cells #[.slice (some ⟨w11.heap.size, 0, none⟩) 3 3, .bool false, .slice none 0 0, .slice (some ⟨w12.heap.size, 0, none⟩) 3 3, .bool false, .slice none 0 0] 45)).alloc (.cells #[.int .i64 1] 3)) (.slice (some ⟨w13.heap.size + 1, 0, none⟩) 1 1) [1]) := Lib.hid (litInts (b := w13.heap.size + 1) (cap := 1) rfl (by decide) (by omega) (by simp [I64]) (by omega) (by have h := Box.new (w13.alloc (.cells #[.slice (some ⟨w11.heap.size, 0, none⟩) 3 3, .bool false, .slice none 0 0, .slice (some ⟨w12.heap.size, 0, none⟩) 3 3, .bool false, .slice none 0 0] 45)) #[.int .i64 1] 3; simpa using h))
  go_wp2_with fail
  refine (isall_any (w13.heap.size + 1 + 1) _ _ _ _ exU 6 6 [1] HF14.out HL14.out (by simp) (by left; decide) (by simp) (by omega) (by omega) exU_all).mono ?_
  rintro e w14 ⟨rfl, hb14⟩
  have HB14 : Hid (Below w.heap.size w w14) := Lib.hid (HT14.out.trans (hb14.mono HT14.out.size))
  clear hb14 HT14 HQ14
  go_wp2
  go_ret
  exact ⟨rfl, HB14.out⟩

end Go.Proofs.Ytndcbnnbgedgcaa

/-
  Layer 28: the walk of BoundsSpec.
-/
set_option linter.unusedVariables false
set_option linter.unusedSimpArgs false
namespace Go.Proofs.Ytndcbnnbgedgcaa
open Go.RowKit

theorem few28_few {f : Flow} (h : few28 f = true) : f.senders ≤ 6 ∨ 12 < f.senders := by
  unfold few28 at h
  simp at h
  omega

set_option maxHeartbeats 2000000 in
set_option maxRecDepth 100000 in
/-- BoundsSpec -/
theorem boundsSpec_any (B : Nat) (w : World) (vs vl : Value) (f : Flow) (hf : IsFlow B w vs vl f) (hB : B ≤ w.heap.size) :
    Calls Try.prog 9 #[.agg #[vs, vl]] w fun e w' => e = .returned (.bool true) ∧ Below w.heap.size w w' := by
  have HF := Lib.hid hf
  obtain ⟨rfl, ⟨hs1, hs2⟩, hl⟩ := hf
  obtain ⟨b, off, cap, ⟨a, rfl, hcap, hmax, ha⟩, hlen, hc⟩ := hl
  clear hc ha
  go_enter Try.func9, Try.ntmps9
  go_wp2_with fail
  refine (sane28_any _).mono ?_
  rintro e w1 ⟨rfl, hb1⟩
  have HX1 := Lib.hid ((Box.new w #[.int .i64 f.senders, .slice a f.lots.length cap] 24).ext hb1)
  have HW1 : Hid (Below w.heap.size w w1) := Lib.hid ((box_below (Nat.le_refl _) _).trans (hb1.mono (by simp)))
  obtain ⟨z1, r1⟩ := HX1.out
  clear hb1
  go_wp2_with fail
  refine (few28_any B w1 _ _ f (HF.out.below HW1.out hB) (by have := HW1.out.size; omega)).mono ?_
  rintro e w2 ⟨rfl, hb2⟩
  have HX2 := Lib.hid (HX1.out.ext hb2)
  have HW2 : Hid (Below w.heap.size w w2) := Lib.hid (HW1.out.trans (hb2.mono HW1.out.size))
  clear hb2 z1 r1
  cases hfew : few28 f
  · clear hfew
    go_wp2
    go_ret
    exact ⟨rfl, HW2.out⟩
  · have H6 := Lib.hid (few28_few hfew)
    clear hfew
    obtain ⟨z2, r2⟩ := HX2.out
    go_wp2_with fail
    refine (bupper_any B w2 _ _ f (HF.out.below HW2.out hB) (by have := HW2.out.size; omega) H6.out).mono ?_
    rintro e w3 ⟨rfl, hb3⟩
    have HX3 := Lib.hid (HX2.out.ext hb3)
    have HW3 : Hid (Below w.heap.size w w3) := Lib.hid (HW2.out.trans (hb3.mono HW2.out.size))
    clear hb3 z2 r2
    obtain ⟨z3, r3⟩ := HX3.out
    go_wp2_with fail
    refine (upper28_any B w3 _ _ f (HF.out.below HW3.out hB) (by have := HW3.out.size; omega) H6.out).mono ?_
    rintro e w4 ⟨rfl, hb4⟩
    have HX4 := Lib.hid (HX3.out.ext hb4)
    have HW4 : Hid (Below w.heap.size w w4) := Lib.hid (HW3.out.trans (hb4.mono HW3.out.size))
    clear hb4 z3 r3
    obtain ⟨z4, r4⟩ := HX4.out
    go_wp2_with fail
    refine (blower_any B w4 _ _ f (HF.out.below HW4.out hB) (by have := HW4.out.size; omega)).mono ?_
    rintro e w5 ⟨v5, rfl, ho5, hb5⟩
    have HO5 := Lib.hid ho5
    obtain ⟨a5, n5, c5, rfl⟩ := ho5.form'
    have HX5 := Lib.hid (HX4.out.ext hb5)
    have HW5 : Hid (Below w.heap.size w w5) := Lib.hid (HW4.out.trans (hb5.mono HW4.out.size))
    clear hb5 z4 r4 ho5
    obtain ⟨z5, r5⟩ := HX5.out
    go_wp2_with fail
    refine (lower28_any B w5 _ _ f (HF.out.below HW5.out hB) (by have := HW5.out.size; omega)).mono ?_
    rintro e w6 ⟨v6, rfl, ho6, hb6⟩
    have HO6 := Lib.hid ho6.isInts
    obtain ⟨a6, n6, c6, rfl⟩ := ho6.form'
    have HO56 := Lib.hid ((HO5.out.below hb6).isInts)
    have HW6 : Hid (Below w.heap.size w w6) := Lib.hid (HW5.out.trans (hb6.mono HW5.out.size))
    clear hb6 z5 r5 ho6
    go_wp2_with fail
    refine (same_any _ _ _ _ _ _ HO56.out HO6.out).mono ?_
    rintro e w7 ⟨rfl, hd⟩
    have HS : Hid (sameB (lowerL f) (lowerL f) = true) := Lib.hid (by unfold sameB; simp)
    rw [HS.out]
    have HW7 : Hid (Below w.heap.size w w7) := Lib.hid (HW6.out.trans (hd.below _))
    clear hd
    go_wp2
    go_ret
    exact ⟨rfl, HW7.out⟩

end Go.Proofs.Ytndcbnnbgedgcaa

/-
  BoundsSpec holds: for all arguments the law returns true, and the arguments read as before.
  No condition beyond the row's own cells.
-/
set_option linter.unusedVariables false
set_option linter.unusedSimpArgs false
namespace Go.Proofs.Ytndcbnnbgedgcaa
open Go.ChangeShapes Go.WideShapes Go.ChangeAt Go.RowKit

theorem boundsSpec_own : ownKnob Try.prog.godebug = none := by kernel_rfl
theorem boundsSpec_laid : laidOutB Try.prog = true := by kernel_rfl

set_option maxRecDepth 100000 in
theorem boundsSpec_lifted (os : Os) (started : os.Started) (H : Type) (enc : TypeId × Value → H) :
    ReturnsInHanded {} Try.checked os 9 .any (Rows.boundsSpecSpec.pre6 enc Try.prog Try.f9 Rows.boundsSpecRow.domain false) (Rows.boundsSpecSpec.post enc Try.prog Try.f9 false true false false) := by
  refine returnsInHanded_of_change_sized (C := Try.checked) boundsSpec_own started (by kernel_rfl) Try.func9
    (ChangeSpec.witness6 (enc := enc) (C := Try.checked) false ⟨#[], #[.agg #[.int .i64 0, .slice none 0 0]], []⟩ 8 (by kernel_rfl) (by kernel_rfl) (by kernel_rfl) (by kernel_rfl)) ?_
  intro W base args ds gs before hval0 hW hcnd hsz0 _
  have hsz : (DataW.weightsEach Try.prog (Try.f9.params.toList ++ Rows.boundsSpecSpec.plain.varTypes Try.prog) (ds ++ gs)).all (· ≤ reachBytes) = true := hsz0
  have hval : ∀ (j : Nat) t v, Try.f9.params[j]? = some t → args[j]? = some v → Value.okWide Try.prog W .any base t v := hval0
  have hW' := hW
  obtain ⟨p, q, hA0, hV, rfl, hfz, hnd⟩ := hW
  have hA : DataW.TrodAll enc Try.prog W 0 (fun _ => true) true Try.f9.params.toList args.toList ds p := hA0
  rw [Try.params9] at hA hval hsz
  obtain ⟨v0, vs0, d0, ds0, p0, q0, e0, rfl, rfl, h0, r0⟩ := trodAll_cons hA
  obtain ⟨rfl, rfl, rfl⟩ := trodAll_nil r0
  obtain rfl : args = #[v0] := by cases args; simp_all
  obtain ⟨rfl, rfl⟩ := trodVars_none hV
  have hw : ∀ n ∈ DataW.weightsEach Try.prog [24] [d0], n ≤ reachBytes := by
    intro n hn
    have := List.all_eq_true.1 hsz n hn
    simpa using this
  obtain ⟨vsf, vlf, f, rfl, h_f⟩ := open_IsFlow (hval 0 24 v0 rfl rfl) h0 (fun n hn => hw n (DataW.weights_mem_each (j := 0) (t := 24) rfl rfl n hn))
  have hlt := hW'.lt
  simp only [List.append_nil] at hW' hlt
  refine (boundsSpec_any W.heap.size W vsf vlf f h_f (Nat.le_refl _)).mono fun e W' ⟨he, hb⟩ => ?_
  subst he
  refine ⟨_, rfl, _, _, _, [], p0 ++ [], [], hW', trodAll_mk1 (shut_bool Try.underlying4 _), ?_, rfl, hb.frame _, fun h => by cases h⟩
  exact trodAll_cons_mk (hb.trod boundsSpec_laid (by kernel_rfl) (of_decide_eq_true (by kernel_rfl)) h0 (fun x hx => hlt x (by simp [hx]))) trodAll_mk0

theorem boundsSpec_holds : Rows.BoundsSpecSaid :=
  OpenClaim.holds_of_wide 9 Try.f9 rfl rfl rfl rfl rfl rfl rfl ⟨rfl, rfl, rfl, rfl, rfl⟩ rfl rfl rfl rfl rfl (by kernel_rfl) Try.func9 (by kernel_rfl)
    (of_decide_eq_true (by kernel_rfl)) (by unfold Func.isWrapper; first | (rw [if_pos (by decide +kernel)]; kernel_rfl) | (rw [if_neg (by decide +kernel)]; exact ⟨rfl, rfl⟩))
    (fun os started H enc _ => boundsSpec_lifted os started H enc)

end Go.Proofs.Ytndcbnnbgedgcaa
