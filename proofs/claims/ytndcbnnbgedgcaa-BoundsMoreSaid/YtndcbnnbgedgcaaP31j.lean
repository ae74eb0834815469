/-
  Layer 31: the walk of sane.
-/
import Derived.Test.YtndcbnnbgedgcaaP31i
set_option linter.unusedVariables false
set_option linter.unusedSimpArgs false
namespace Go.Proofs.Ytndcbnnbgedgcaa
open Go.RowKit

def exA : Flow := ⟨3, [⟨[0, 1], false, []⟩]⟩
def exB : Flow := ⟨1, []⟩
def exC : Flow := ⟨0, []⟩

theorem IsInts.lit {B b cap : Nat} {w : World} {xs : List Int} {v : Value} (hv : v = .slice (some ⟨b, 0, none⟩) xs.length cap) (hc : xs.length ≤ cap) (hm : cap ≤ 1000) (h64 : ∀ x ∈ xs, I64 x) (hb : b < B)
    (hx : Box w b (xs.map (Value.int .i64 ·)).toArray) : IsInts B w v xs := by
  refine ⟨b, 0, cap, ⟨_, hv, hc, by omega, Or.inl rfl⟩, by omega, h64, fun j hj => ⟨hb, ?_⟩⟩
  rw [hx.2]
  simp [nth_eq_getElem hj, hj]
theorem IsInts.none {B : Nat} {w : World} : IsInts B w (.slice none 0 0) [] :=
  ⟨0, 0, 0, ⟨_, rfl, by simp, by omega, Or.inr rfl⟩, by simp, by simp, fun j hj => by simp at hj⟩
theorem IsLots.none {B : Nat} {w : World} : IsLots B w (.slice none 0 0) [] :=
  ⟨0, 0, 0, ⟨_, rfl, by simp, by omega, Or.inr rfl⟩, by simp, fun j hj => by simp at hj⟩

theorem exA_flow {W : World} {b1 b2 : Nat} (h1 : Box W b1 #[.int .i64 0, .int .i64 1]) (h2 : Box W b2 #[.slice (some ⟨b1, 0, none⟩) 2 2, .bool false, .slice none 0 0]) :
    IsFlow W.heap.size W (.int .i64 3) (.slice (some ⟨b2, 0, none⟩) 1 1) exA := by
  refine ⟨rfl, by simp [exA, I64], b2, 0, 1, ⟨_, rfl, by decide, by omega, Or.inl rfl⟩, by simp [exA], fun j hj => ?_⟩
  obtain rfl : j = 0 := by have : exA.lots.length = 1 := rfl; omega
  exact ⟨_, _, _, ⟨h2.1, by rw [h2.2]; rfl⟩, ⟨h2.1, by rw [h2.2]; rfl⟩, ⟨h2.1, by rw [h2.2]; rfl⟩, IsInts.lit (b := b1) (cap := 2) rfl (by decide) (by omega) (by simp [exA, lotAt, I64]) h1.1 h1, rfl, IsInts.none⟩

theorem since_at {f : Flow} {s need n er : Int} {ok : Bool} (h : SinceAns f s need n ok er) (r0 : Nat) (he : reachE f s = 0) (h1 : ∀ r, r ≤ f.lots.length + 1 → (r = 0 ∨ enoughK f s need (r - 1) = false) → (r = f.lots.length + 1 ∨ enoughK f s need r = true) → r = r0) :
    er = 0 ∧ n = (if r0 ≤ f.lots.length then (r0 : Int) else 0) ∧ ok = decide (r0 ≤ f.lots.length) := by
  obtain ⟨rfl, h2 | ⟨_, r, ⟨h3, h4, h5⟩, h6⟩⟩ := h
  · exact absurd he h2.1
  · obtain rfl := h1 r h3 h4 h5
    refine ⟨he, ?_⟩
    rcases h6 with ⟨h7, rfl, rfl⟩ | ⟨h7, rfl, rfl⟩
    · rw [if_pos h7]; simp [h7]
    · rw [if_neg (by omega)]; refine ⟨rfl, ?_⟩; symm; exact decide_eq_false (by omega)

theorem exA_since {n er : Int} {ok : Bool} (h : SinceAns exA 0 2 n ok er) : er = 0 ∧ n = 1 ∧ ok = true := by
  refine since_at h 1 (by decide) (fun r h1 h2 h3 => ?_)
  have e0 : enoughK exA 0 2 0 = false := by decide
  have e1 : enoughK exA 0 2 1 = true := by decide
  have hr : r = 0 ∨ r = 1 ∨ r = 2 := by have : exA.lots.length = 1 := rfl; omega
  rcases hr with rfl | rfl | rfl
  · rw [e0] at h3; simp [exA] at h3
  · rfl
  · simp [e1] at h2
theorem exB_since1 {n er : Int} {ok : Bool} (h : SinceAns exB 0 1 n ok er) : er = 0 ∧ n = 0 ∧ ok = true := by
  refine since_at h 0 (by decide) (fun r h1 h2 h3 => ?_)
  have e0 : enoughK exB 0 1 0 = true := by decide
  have hr : r = 0 ∨ r = 1 := by have : exB.lots.length = 0 := rfl; omega
  rcases hr with rfl | rfl
  · rfl
  · simp [e0] at h2
theorem exB_since2 {n er : Int} {ok : Bool} (h : SinceAns exB 0 2 n ok er) : er = 0 ∧ n = 0 ∧ ok = false := by
  refine since_at h 1 (by decide) (fun r h1 h2 h3 => ?_)
  have e0 : enoughK exB 0 2 0 = false := by decide
  have hr : r = 0 ∨ r = 1 := by have : exB.lots.length = 0 := rfl; omega
  rcases hr with rfl | rfl
  · rw [e0] at h3; simp [exB] at h3
  · rfl
theorem exB_since3 {n er : Int} {ok : Bool} (h : SinceAns exB 1 1 n ok er) : er = 1 := by
  obtain ⟨rfl, _⟩ := h
  decide

set_option maxHeartbeats 4000000 in
set_option maxRecDepth 100000 in
/-- sane -/
theorem sane31_any (w : World) : Calls Try.prog 11 #[] w fun e w' => e = .returned (.bool true) ∧ Below w.heap.size w w' := by
  go_enter Try.func11, Try.ntmps11
  go_wp2_with fail
  have hB0 : Below w.heap.size w ((((w.alloc (.cells #[.int .i64 1, .slice none 0 0] 24)).alloc (.cells #[.int .i64 0, .int .i64 1] 3)).alloc (.cells #[.slice (some ⟨w.heap.size + 1, 0, none⟩) 2 2, .bool false, .slice none 0 0] 45)).alloc (.cells #[.int .i64 3, .slice (some ⟨w.heap.size + 1 + 1, 0, none⟩) 1 1] 24)) :=
    ((((Below.refl _ w).alloc (Nat.le_refl _) _).alloc (by simp) _).alloc (by simp; omega) _).alloc (by simp; omega) _
  have hX1 := (((Box.new w #[.int .i64 1, .slice none 0 0] 24).alloc (.cells #[.int .i64 0, .int .i64 1] 3)).alloc (.cells #[.slice (some ⟨w.heap.size + 1, 0, none⟩) 2 2, .bool false, .slice none 0 0] 45)).alloc (.cells #[.int .i64 3, .slice (some ⟨w.heap.size + 1 + 1, 0, none⟩) 1 1] 24)
  have hX2 := ((Box.new (w.alloc (.cells #[.int .i64 1, .slice none 0 0] 24)) #[.int .i64 0, .int .i64 1] 3).alloc (.cells #[.slice (some ⟨w.heap.size + 1, 0, none⟩) 2 2, .bool false, .slice none 0 0] 45)).alloc (.cells #[.int .i64 3, .slice (some ⟨w.heap.size + 1 + 1, 0, none⟩) 1 1] 24)
  have hX3 := (Box.new ((w.alloc (.cells #[.int .i64 1, .slice none 0 0] 24)).alloc (.cells #[.int .i64 0, .int .i64 1] 3)) #[.slice (some ⟨w.heap.size + 1, 0, none⟩) 2 2, .bool false, .slice none 0 0] 45).alloc (.cells #[.int .i64 3, .slice (some ⟨w.heap.size + 1 + 1, 0, none⟩) 1 1] 24)
  have hX4 := Box.new (((w.alloc (.cells #[.int .i64 1, .slice none 0 0] 24)).alloc (.cells #[.int .i64 0, .int .i64 1] 3)).alloc (.cells #[.slice (some ⟨w.heap.size + 1, 0, none⟩) 2 2, .bool false, .slice none 0 0] 45)) #[.int .i64 3, .slice (some ⟨w.heap.size + 1 + 1, 0, none⟩) 1 1] 24
  simp only [World.size_alloc] at hX2 hX3 hX4
  obtain ⟨W0, hW0⟩ : ∃ W, ((((w.alloc (.cells #[.int .i64 1, .slice none 0 0] 24)).alloc (.cells #[.int .i64 0, .int .i64 1] 3)).alloc (.cells #[.slice (some ⟨w.heap.size + 1, 0, none⟩) 2 2, .bool false, .slice none 0 0] 45)).alloc (.cells #[.int .i64 3, .slice (some ⟨w.heap.size + 1 + 1, 0, none⟩) 1 1] 24)) = W := ⟨_, rfl⟩
  rw [hW0] at hB0 hX1 hX2 hX3 hX4 ⊢
  clear hW0
  obtain ⟨p1, hp1⟩ : ∃ p, w.heap.size = p := ⟨_, rfl⟩
  obtain ⟨p3, hp3⟩ : ∃ p, p1 + 1 + 1 = p := ⟨_, rfl⟩
  obtain ⟨p4, hp4⟩ : ∃ p, p3 + 1 = p := ⟨_, rfl⟩
  simp only [hp1, hp3, hp4] at hX1 hX2 hX3 hX4 ⊢
  have HSZ : Hid (w.heap.size = p1) := Lib.hid hp1
  have HFA := Lib.hid (exA_flow hX2 hX3)
  have HFB : Hid (∀ W : World, IsFlow W0.heap.size W (.int .i64 1) (.slice none 0 0) exB) := Lib.hid fun W => ⟨rfl, by simp [exB, I64], IsLots.none⟩
  have HFC : Hid (∀ W : World, IsFlow W0.heap.size W (.int .i64 0) (.slice none 0 0) exC) := Lib.hid fun W => ⟨rfl, by simp [exC, I64], IsLots.none⟩
  have HX1 := Lib.hid hX1
  have HX4 := Lib.hid hX4
  have HB0 := Lib.hid hB0
  clear hX1 hX2 hX3 hX4 hB0 hp1 hp3 hp4
  have HB00 : Hid (Below W0.heap.size W0 W0) := Lib.hid (Below.refl _ _)
  refine (crowd_any W0.heap.size W0 _ _ exA 0 (HFA.out.below HB00.out (Nat.le_refl _)) (HB00.out.size) (by unfold I64; omega)).mono ?_
  rintro e W1 ⟨rfl, hb1⟩
  have HB1_ : Hid (Below W0.heap.size W0 W1) := Lib.hid (HB00.out.trans (hb1.mono HB00.out.size))
  rw [show ((reachR exA 0).length : Int) = 2 from by decide, show reachE exA 0 = 0 from by decide]
  clear hb1
  have HB1 := HB1_
  obtain ⟨zA1, rA1⟩ := HX4.out.ext HB1.out
  obtain ⟨zB1, rB1⟩ := HX1.out.ext HB1.out
  go_wp2_with fail
  refine (crowd_any W0.heap.size W1 _ _ exA 2 (HFA.out.below HB1.out (Nat.le_refl _)) (HB1.out.size) (by unfold I64; omega)).mono ?_
  rintro e W2 ⟨rfl, hb2⟩
  have HB2_ : Hid (Below W0.heap.size W0 W2) := Lib.hid (HB1.out.trans (hb2.mono HB1.out.size))
  rw [show ((reachR exA 2).length : Int) = 1 from by decide, show reachE exA 2 = 0 from by decide]
  clear hb2
  clear zA1 rA1 zB1 rB1
  have HB2 := HB2_
  obtain ⟨zA2, rA2⟩ := HX4.out.ext HB2.out
  obtain ⟨zB2, rB2⟩ := HX1.out.ext HB2.out
  go_wp2_with fail
  refine (crowd_any W0.heap.size W2 _ _ exB 0 (HFB.out W2) (HB2.out.size) (by unfold I64; omega)).mono ?_
  rintro e W3 ⟨rfl, hb3⟩
  have HB3_ : Hid (Below W0.heap.size W0 W3) := Lib.hid (HB2.out.trans (hb3.mono HB2.out.size))
  rw [show ((reachR exB 0).length : Int) = 1 from by decide, show reachE exB 0 = 0 from by decide]
  clear hb3
  clear zA2 rA2 zB2 rB2
  have HB3 := HB3_
  obtain ⟨zA3, rA3⟩ := HX4.out.ext HB3.out
  obtain ⟨zB3, rB3⟩ := HX1.out.ext HB3.out
  go_wp2_with fail
  refine (crowd_any W0.heap.size W3 _ _ exC 0 (HFC.out W3) (HB3.out.size) (by unfold I64; omega)).mono ?_
  rintro e W4 ⟨rfl, hb4⟩
  have HB4_ : Hid (Below W0.heap.size W0 W4) := Lib.hid (HB3.out.trans (hb4.mono HB3.out.size))
  rw [show ((reachR exC 0).length : Int) = 0 from by decide, show reachE exC 0 = 1 from by decide]
  clear hb4
  clear zA3 rA3 zB3 rB3
  have HB4 := HB4_
  obtain ⟨zA4, rA4⟩ := HX4.out.ext HB4.out
  obtain ⟨zB4, rB4⟩ := HX1.out.ext HB4.out
  go_wp2_with fail
  have HA5 : Hid (Below W0.heap.size W0 (W4.alloc (.cells #[.int .i64 2, .int .i64 3, .int .i64 1] 3))) := Lib.hid (HB4.out.alloc HB4.out.size _)
  have HI5 : Hid (IsInts (W4.heap.size + 1) (W4.alloc (.cells #[.int .i64 2, .int .i64 3, .int .i64 1] 3)) (.slice (some ⟨W4.heap.size, 0, none⟩) 3 3) [2, 3, 1]) := Lib.hid (IsInts.lit (b := W4.heap.size) (cap := 3) rfl (by decide) (by omega) (by simp [I64]) (by omega) (Box.new W4 #[.int .i64 2, .int .i64 3, .int .i64 1] 3))
  have HZ5 : Hid (W0.heap.size ≤ W4.heap.size + 1) := Lib.hid (by have := HB4.out.size; omega)
  refine (broken_any (W4.heap.size + 1) _ _ _ _ exA [2, 3, 1] ((HFA.out.below HA5.out (Nat.le_refl _)).mono HZ5.out) HI5.out (by simp)).mono ?_
  rintro e W5 ⟨v5, rfl, ho5, hb5⟩
  have HB5 : Hid (Below W0.heap.size W0 W5) := Lib.hid (HA5.out.trans (hb5.mono HA5.out.size))
  rw [show brokenR exA [2, 3, 1] = [1] from by decide] at ho5
  rw [show brokenE exA [2, 3, 1] = 0 from by decide]
  have HO5 := Lib.hid ho5.isInts
  obtain ⟨a5, c5, rfl, _⟩ := ho5.form
  have HQ5_5 : Hid (Below W5.heap.size W5 W5) := Lib.hid (Below.refl _ _)
  clear hb5 ho5 zA4 rA4 zB4 rB4
  obtain ⟨zA5, rA5⟩ := HX4.out.ext HB5.out
  obtain ⟨zB5, rB5⟩ := HX1.out.ext HB5.out
  go_wp2_with fail
  have HA6 : Hid (Below W0.heap.size W0 (W5.alloc (.cells #[.int .i64 1] 3))) := Lib.hid (HB5.out.alloc HB5.out.size _)
  have HI6 : Hid (IsInts (W5.heap.size + 1) (W5.alloc (.cells #[.int .i64 1] 3)) (.slice (some ⟨W5.heap.size, 0, none⟩) 1 1) [1]) := Lib.hid (IsInts.lit (b := W5.heap.size) (cap := 1) rfl (by decide) (by omega) (by simp [I64]) (by omega) (Box.new W5 #[.int .i64 1] 3))
  have HZ6 : Hid (W0.heap.size ≤ W5.heap.size + 1) := Lib.hid (by have := HB5.out.size; omega)
  refine (broken_any (W5.heap.size + 1) _ _ _ _ exB [1] ((HFB.out _).mono HZ6.out) HI6.out (by simp)).mono ?_
  rintro e W6 ⟨v6, rfl, ho6, hb6⟩
  have HB6 : Hid (Below W0.heap.size W0 W6) := Lib.hid (HA6.out.trans (hb6.mono HA6.out.size))
  rw [show brokenR exB [1] = [] from by decide] at ho6
  rw [show brokenE exB [1] = 0 from by decide]
  have HO6 := Lib.hid ho6.isInts
  obtain ⟨a6, c6, rfl, _⟩ := ho6.form
  have HQ5_6 : Hid (Below W5.heap.size W5 W6) := Lib.hid ((HQ5_5.out.alloc HQ5_5.out.size _).trans (hb6.mono (Nat.le_trans HQ5_5.out.size (by simp))))
  clear hb6 ho6 zA5 rA5 zB5 rB5
  obtain ⟨zA6, rA6⟩ := HX4.out.ext HB6.out
  obtain ⟨zB6, rB6⟩ := HX1.out.ext HB6.out
  go_wp2_with fail
  have HA7 : Hid (Below W0.heap.size W0 (W6.alloc (.cells #[.int .i64 2] 3))) := Lib.hid (HB6.out.alloc HB6.out.size _)
  have HI7 : Hid (IsInts (W6.heap.size + 1) (W6.alloc (.cells #[.int .i64 2] 3)) (.slice (some ⟨W6.heap.size, 0, none⟩) 1 1) [2]) := Lib.hid (IsInts.lit (b := W6.heap.size) (cap := 1) rfl (by decide) (by omega) (by simp [I64]) (by omega) (Box.new W6 #[.int .i64 2] 3))
  have HZ7 : Hid (W0.heap.size ≤ W6.heap.size + 1) := Lib.hid (by have := HB6.out.size; omega)
  refine (broken_any (W6.heap.size + 1) _ _ _ _ exB [2] ((HFB.out _).mono HZ7.out) HI7.out (by simp)).mono ?_
  rintro e W7 ⟨v7, rfl, ho7, hb7⟩
  have HB7 : Hid (Below W0.heap.size W0 W7) := Lib.hid (HA7.out.trans (hb7.mono HA7.out.size))
  rw [show brokenR exB [2] = [0] from by decide] at ho7
  rw [show brokenE exB [2] = 0 from by decide]
  have HO7 := Lib.hid ho7.isInts
  obtain ⟨a7, c7, rfl, _⟩ := ho7.form
  have HQ5_7 : Hid (Below W5.heap.size W5 W7) := Lib.hid ((HQ5_6.out.alloc HQ5_6.out.size _).trans (hb7.mono (Nat.le_trans HQ5_6.out.size (by simp))))
  have HQ7_7 : Hid (Below W7.heap.size W7 W7) := Lib.hid (Below.refl _ _)
  clear hb7 ho7 zA6 rA6 zB6 rB6
  obtain ⟨zA7, rA7⟩ := HX4.out.ext HB7.out
  obtain ⟨zB7, rB7⟩ := HX1.out.ext HB7.out
  go_wp2_with fail
  refine (broken_any W0.heap.size W7 _ _ _ exB [] (HFB.out _) IsInts.none HB7.out.size).mono ?_
  rintro e W8 ⟨v8, rfl, ho8, hb8⟩
  have HB8 : Hid (Below W0.heap.size W0 W8) := Lib.hid (HB7.out.trans (hb8.mono HB7.out.size))
  rw [show brokenR exB [] = [] from by decide] at ho8
  rw [show brokenE exB [] = 1 from by decide]
  have HO8 := Lib.hid ho8.isInts
  obtain ⟨a8, c8, rfl, _⟩ := ho8.form
  have HQ5_8 : Hid (Below W5.heap.size W5 W8) := Lib.hid (HQ5_7.out.trans (hb8.mono HQ5_7.out.size))
  have HQ7_8 : Hid (Below W7.heap.size W7 W8) := Lib.hid (HQ7_7.out.trans (hb8.mono HQ7_7.out.size))
  clear hb8 ho8 zA7 rA7 zB7 rB7
  obtain ⟨zA8, rA8⟩ := HX4.out.ext HB8.out
  obtain ⟨zB8, rB8⟩ := HX1.out.ext HB8.out
  go_wp2_with fail
  refine (since_any W0.heap.size W8 _ _ exA 0 2 (HFA.out.below HB8.out (Nat.le_refl _)) HB8.out.size (by unfold I64; omega)).mono ?_
  rintro e W9 ⟨n9, ok9, er9, rfl, hs9, hb9⟩
  have HB9 : Hid (Below W0.heap.size W0 W9) := Lib.hid (HB8.out.trans (hb9.mono HB8.out.size))
  obtain ⟨rfl, rfl, rfl⟩ := exA_since hs9
  have HQ5_9 : Hid (Below W5.heap.size W5 W9) := Lib.hid (HQ5_8.out.trans (hb9.mono HQ5_8.out.size))
  have HQ7_9 : Hid (Below W7.heap.size W7 W9) := Lib.hid (HQ7_8.out.trans (hb9.mono HQ7_8.out.size))
  clear hb9 zA8 rA8 zB8 rB8
  obtain ⟨zA9, rA9⟩ := HX4.out.ext HB9.out
  obtain ⟨zB9, rB9⟩ := HX1.out.ext HB9.out
  go_wp2_with fail
  refine (since_any W0.heap.size W9 _ _ exB 0 1 (HFB.out _) HB9.out.size (by unfold I64; omega)).mono ?_
  rintro e W10 ⟨n10, ok10, er10, rfl, hs10, hb10⟩
  have HB10 : Hid (Below W0.heap.size W0 W10) := Lib.hid (HB9.out.trans (hb10.mono HB9.out.size))
  obtain ⟨rfl, rfl, rfl⟩ := exB_since1 hs10
  have HQ5_10 : Hid (Below W5.heap.size W5 W10) := Lib.hid (HQ5_9.out.trans (hb10.mono HQ5_9.out.size))
  have HQ7_10 : Hid (Below W7.heap.size W7 W10) := Lib.hid (HQ7_9.out.trans (hb10.mono HQ7_9.out.size))
  clear hb10 zA9 rA9 zB9 rB9
  obtain ⟨zA10, rA10⟩ := HX4.out.ext HB10.out
  obtain ⟨zB10, rB10⟩ := HX1.out.ext HB10.out
  go_wp2_with fail
  refine (since_any W0.heap.size W10 _ _ exB 0 2 (HFB.out _) HB10.out.size (by unfold I64; omega)).mono ?_
  rintro e W11 ⟨n11, ok11, er11, rfl, hs11, hb11⟩
  have HB11 : Hid (Below W0.heap.size W0 W11) := Lib.hid (HB10.out.trans (hb11.mono HB10.out.size))
  obtain ⟨rfl, rfl, rfl⟩ := exB_since2 hs11
  have HQ5_11 : Hid (Below W5.heap.size W5 W11) := Lib.hid (HQ5_10.out.trans (hb11.mono HQ5_10.out.size))
  have HQ7_11 : Hid (Below W7.heap.size W7 W11) := Lib.hid (HQ7_10.out.trans (hb11.mono HQ7_10.out.size))
  clear hb11 zA10 rA10 zB10 rB10
  obtain ⟨zA11, rA11⟩ := HX4.out.ext HB11.out
  obtain ⟨zB11, rB11⟩ := HX1.out.ext HB11.out
  go_wp2_with fail
  refine (since_any W0.heap.size W11 _ _ exB 1 1 (HFB.out _) HB11.out.size (by unfold I64; omega)).mono ?_
  rintro e W12 ⟨n12, ok12, er12, rfl, hs12, hb12⟩
  have HB12 : Hid (Below W0.heap.size W0 W12) := Lib.hid (HB11.out.trans (hb12.mono HB11.out.size))
  obtain rfl := exB_since3 hs12
  have HQ5_12 : Hid (Below W5.heap.size W5 W12) := Lib.hid (HQ5_11.out.trans (hb12.mono HQ5_11.out.size))
  have HQ7_12 : Hid (Below W7.heap.size W7 W12) := Lib.hid (HQ7_11.out.trans (hb12.mono HQ7_11.out.size))
  clear hb12 zA11 rA11 zB11 rB11
  clear hs12
  obtain ⟨zA12, rA12⟩ := HX4.out.ext HB12.out
  obtain ⟨zB12, rB12⟩ := HX1.out.ext HB12.out
  go_wp2_with fail
  have HT : Hid (Below W0.heap.size W0 (W12.alloc (.cells #[.int .i64 1] 3))) := Lib.hid (HB12.out.alloc HB12.out.size _)
  have HL1 : Hid (IsInts (W12.heap.size + 1) (W12.alloc (.cells #[.int .i64 1] 3)) (.slice (some ⟨W12.heap.size, 0, none⟩) 1 1) [1]) := Lib.hid (IsInts.lit (b := W12.heap.size) (cap := 1) rfl (by decide) (by omega) (by simp [I64]) (by omega) (Box.new W12 #[.int .i64 1] 3))
  have HM1 : Hid (IsInts (W12.heap.size + 1) (W12.alloc (.cells #[.int .i64 1] 3)) (.slice a5 1 c5) [1]) := Lib.hid ((HO5.out.below (HQ5_12.out.alloc HQ5_12.out.size _) (Nat.le_refl _)).mono (by have := HQ5_12.out.size; omega))
  refine (same31_any _ _ _ _ [1] [1] HM1.out HL1.out).mono ?_
  rintro e W13 ⟨rfl, hd⟩
  rw [show sameB [1] [1] = true from by decide]
  have HB13 : Hid (Below W0.heap.size W0 W13) := Lib.hid (HT.out.trans (hd.below _))
  have HQ7_13 : Hid (Below W7.heap.size W7 W13) := Lib.hid ((HQ7_12.out.alloc HQ7_12.out.size _).trans (hd.below _))
  clear hd zA12 rA12 zB12 rB12
  go_wp2_with fail
  have HT2 : Hid (Below W0.heap.size W0 (W13.alloc (.cells #[.int .i64 0] 3))) := Lib.hid (HB13.out.alloc HB13.out.size _)
  have HL2 : Hid (IsInts (W13.heap.size + 1) (W13.alloc (.cells #[.int .i64 0] 3)) (.slice (some ⟨W13.heap.size, 0, none⟩) 1 1) [0]) := Lib.hid (IsInts.lit (b := W13.heap.size) (cap := 1) rfl (by decide) (by omega) (by simp [I64]) (by omega) (Box.new W13 #[.int .i64 0] 3))
  have HM2 : Hid (IsInts (W13.heap.size + 1) (W13.alloc (.cells #[.int .i64 0] 3)) (.slice a7 1 c7) [0]) := Lib.hid ((HO7.out.below (HQ7_13.out.alloc HQ7_13.out.size _) (Nat.le_refl _)).mono (by have := HQ7_13.out.size; omega))
  refine (same31_any _ _ _ _ [0] [0] HM2.out HL2.out).mono ?_
  rintro e W14 ⟨rfl, hd⟩
  rw [show sameB [0] [0] = true from by decide]
  have HB14 : Hid (Below W0.heap.size W0 W14) := Lib.hid (HT2.out.trans (hd.below _))
  clear hd
  go_wp2
  go_ret
  refine ⟨rfl, ?_⟩
  rw [HSZ.out]
  exact (HSZ.out ▸ HB0.out).trans (HB14.out.mono (by have := HB0.out.size; have := HSZ.out; omega))

end Go.Proofs.Ytndcbnnbgedgcaa
