/-
  Layer 17: the walk of the law's sane (printed by tools/geny21.py).
-/
import Derived.Test.YtfnmidddgjlipaaGreatDoorY20
set_option linter.unusedVariables false
set_option linter.unusedSimpArgs false
namespace Go.Proofs.YtfnmidddgjlipaaGreatDoor
open Go.RowKit

theorem prFew_one : PrFew [exWant] := ⟨by decide +kernel, by decide +kernel, by decide +kernel⟩
theorem prFew_zero : PrFew [exZ] := ⟨by decide +kernel, by decide +kernel, by decide +kernel⟩
theorem okW_want : okW exWant := by unfold okW I64 exWant; decide +kernel
theorem okW_a : okW exA := by unfold okW I64 exA; decide +kernel
theorem okW_b : okW exB := by unfold okW I64 exB; decide +kernel
theorem okW_z : okW exZ := by unfold okW I64 exZ; decide +kernel

set_option maxHeartbeats 16000000 in
set_option maxRecDepth 100000 in
theorem sane17_any (w : World) (hL : LaidW w) : Calls Tryz.prog 5 #[] w fun e w' => e = .returned (.bool true) ∧ Below w.heap.size w w' := by
  have HL := Lib.hid hL
  have h4 := hL.size
  clear hL
  go_enter Tryz.func5, Tryz.ntmps5
  go_wp2_with fail
  refine (parse_at _ src_s1 _ _ _ w (by kernel_rfl) HL.out (by decide +kernel) ex_s1).mono ?_
  rintro e w1 ⟨a1, c1, rfl, hi, hb⟩
  have HI1 := Lib.hid hi
  have HBw1 : Hid (Below w.heap.size w w1) := Lib.hid (hb)
  have hz1 := hb.size
  clear hi hb
  go_wp2_with fail
  refine (parse_at _ src_s2 _ _ _ w1 (by kernel_rfl) (HL.out.below HBw1.out h4) (by decide +kernel) ex_s2).mono ?_
  rintro e w2 ⟨a2, c2, rfl, hi, hb⟩
  have HI2 := Lib.hid hi
  have HBw2 : Hid (Below w.heap.size w w2) := Lib.hid (HBw1.out.trans (hb.mono HBw1.out.size))
  have hz2 := hb.size
  clear hi hb
  go_wp2_with fail
  refine (parse_at _ src_s3 _ _ _ w2 (by kernel_rfl) (HL.out.below HBw2.out h4) (by decide +kernel) ex_s3).mono ?_
  rintro e w3 ⟨a3, c3, rfl, hi, hb⟩
  have HI3 := Lib.hid hi
  have HBw3 : Hid (Below w.heap.size w w3) := Lib.hid (HBw2.out.trans (hb.mono HBw2.out.size))
  have hz3 := hb.size
  clear hi hb
  go_wp2_with fail
  refine (parse_at _ src_s4 _ _ _ w3 (by kernel_rfl) (HL.out.below HBw3.out h4) (by decide +kernel) ex_s4).mono ?_
  rintro e w4 ⟨a4, c4, rfl, hi, hb⟩
  have HI4 := Lib.hid hi
  have HBw4 : Hid (Below w.heap.size w w4) := Lib.hid (HBw3.out.trans (hb.mono HBw3.out.size))
  have hz4 := hb.size
  clear hi hb
  go_wp2_with fail
  refine (parse_at _ src_s5 _ _ _ w4 (by kernel_rfl) (HL.out.below HBw4.out h4) (by decide +kernel) ex_s5).mono ?_
  rintro e w5 ⟨a5, c5, rfl, hi, hb⟩
  have HI5 := Lib.hid hi
  have HBw5 : Hid (Below w.heap.size w w5) := Lib.hid (HBw4.out.trans (hb.mono HBw4.out.size))
  have hz5 := hb.size
  clear hi hb
  go_upto_region 8 with fail
  obtain ⟨W7, hW7⟩ : ∃ W, (w5.alloc (.cells #[.string ⟨#[120]⟩, .string ⟨#[121]⟩] 9)).alloc (.cells #[.string ⟨#[97]⟩, .string ⟨#[120]⟩, .string ⟨#[98, 111]⟩, .string ⟨#[115, 108, 111, 119]⟩, .int .i64 0, .int .i64 9, .int .i64 2, .int .i64 7, .slice (some ⟨w5.heap.size, 0, none⟩) 2 2, .bool true, .int .i64 1] 34) = W := ⟨_, rfl⟩
  have hb7 : Below w5.heap.size w5 W7 := by rw [← hW7]; exact (box_below' w5 _).alloc (by simp) _
  have HBW7 : Hid (Below w.heap.size w W7) := Lib.hid (HBw5.out.trans (hb7.mono HBw5.out.size))
  have HI7 : Hid (IsWishes W7.heap.size W7 (.slice (some ⟨w5.heap.size + 1, 0, none⟩) 1 1) [exWant]) := Lib.hid (by
    have k1 : CellsN W7 w5.heap.size (([[120], [121]] : List Str).map strV).toArray := by rw [← hW7]; exact (CellsN.new w5 _ _).alloc _
    have k2 : CellsN W7 (w5.heap.size + 1) ((([(Value.slice (some ⟨w5.heap.size, 0, none⟩) 2 2, exWant)] : List (Value × WishD)).map fun p => wishC p.1 p.2).flatten).toArray := by
      rw [← hW7]
      have := CellsN.new (w5.alloc (.cells #[.string ⟨#[120]⟩, .string ⟨#[121]⟩] 9)) #[.string ⟨#[97]⟩, .string ⟨#[120]⟩, .string ⟨#[98, 111]⟩, .string ⟨#[115, 108, 111, 119]⟩, .int .i64 0, .int .i64 9, .int .i64 2, .int .i64 7, .slice (some ⟨w5.heap.size, 0, none⟩) 2 2, .bool true, .int .i64 1] 34
      rw [World.size_alloc] at this
      exact this
    refine wishes_of _ k2 k2.lt (fun p hp => ?_) (by simp) rfl _ rfl
    obtain rfl := List.mem_singleton.1 hp
    exact ⟨strs_of (xs := exWant.against) k1 k1.lt (by decide) (by decide) (by decide +kernel) rfl, okW_want⟩)
  have hz7 : w5.heap.size ≤ W7.heap.size := hb7.size
  have HI5b := Lib.hid (IsRecs.below wishK HI5.out hb7 (Nat.le_refl _))
  rw [hW7]
  clear hb7 hW7
  go_wp2_with fail
  refine (print_any W7.heap.size W7 _ [exWant] (HL.out.below HBW7.out h4) (Nat.le_refl _) HI7.out prFew_one).mono ?_
  rintro e w8 ⟨he, hb⟩
  rw [ex_print.1, ex_print.2.1, show strV src_s5 = .string ⟨#[108, 101, 116, 116, 101, 114, 32, 97, 32, 102, 114, 111, 109, 32, 120, 32, 116, 111, 32, 98, 111, 32, 99, 108, 97, 115, 115, 32, 115, 108, 111, 119, 32, 97, 102, 116, 101, 114, 32, 48, 32, 98, 121, 32, 57, 32, 99, 114, 111, 119, 100, 32, 50, 32, 97, 103, 97, 105, 110, 115, 116, 32, 120, 32, 44, 32, 121, 32, 112, 97, 121, 32, 55, 32, 98, 97, 99, 107, 32, 101, 108, 115, 101, 32, 104, 111, 108, 100, 32, 59]⟩ from rfl] at he
  subst he
  have HBw8 : Hid (Below w.heap.size w w8) := Lib.hid (HBW7.out.trans (hb.mono HBW7.out.size))
  have HI78 := Lib.hid (IsRecs.below wishK HI7.out hb (Nat.le_refl _))
  have HI58 := Lib.hid (IsRecs.below wishK HI5b.out (hb.mono hz7) (Nat.le_refl _))
  have hz8 := hb.size
  clear hb
  obtain ⟨W9, hW9⟩ : ∃ W, w8.alloc (.cells #[.string ⟨#[]⟩, .string ⟨#[]⟩, .string ⟨#[]⟩, .string ⟨#[]⟩, .int .i64 0, .int .i64 0, .int .i64 0, .int .i64 0, .slice none 0 0, .bool false, .int .i64 0] 34) = W := ⟨_, rfl⟩
  have hb9 : Below w8.heap.size w8 W9 := by rw [← hW9]; exact box_below' w8 _
  have HBW9 : Hid (Below w.heap.size w W9) := Lib.hid (HBw8.out.trans (hb9.mono HBw8.out.size))
  have HI9 : Hid (IsWishes W9.heap.size W9 (.slice (some ⟨w8.heap.size, 0, none⟩) 1 1) [exZ]) := Lib.hid (by
    have k2 : CellsN W9 w8.heap.size ((([(Value.slice none 0 0, exZ)] : List (Value × WishD)).map fun p => wishC p.1 p.2).flatten).toArray := by
      rw [← hW9]; exact CellsN.new w8 #[.string ⟨#[]⟩, .string ⟨#[]⟩, .string ⟨#[]⟩, .string ⟨#[]⟩, .int .i64 0, .int .i64 0, .int .i64 0, .int .i64 0, .slice none 0 0, .bool false, .int .i64 0] 34
    refine wishes_of _ k2 k2.lt (fun p hp => ?_) (by simp) rfl _ rfl
    obtain rfl := List.mem_singleton.1 hp
    exact ⟨IsRecs.nil, okW_z⟩)
  have hz9 : w8.heap.size ≤ W9.heap.size := hb9.size
  have HI79 := Lib.hid (IsRecs.below wishK HI78.out (hb9.mono hz8) (Nat.le_refl _))
  have HI59 := Lib.hid (IsRecs.below wishK HI58.out (hb9.mono (by omega : w5.heap.size ≤ w8.heap.size)) (Nat.le_refl _))
  have HW9 := Lib.hid hW9
  clear hb9 hW9
  go_wp2_with fail
  rw [HW9.out]
  refine (print_any W9.heap.size W9 _ [exZ] (HL.out.below HBW9.out h4) (Nat.le_refl _) HI9.out prFew_zero).mono ?_
  rintro e wp ⟨he, hb⟩
  rw [ex_print.2.2] at he
  subst he
  have HBwp : Hid (Below w.heap.size w wp) := Lib.hid (HBW9.out.trans (hb.mono HBW9.out.size))
  have HI7p := Lib.hid (IsRecs.below wishK HI79.out (hb.mono (by omega : W7.heap.size ≤ W9.heap.size)) (Nat.le_refl _))
  have HI5p := Lib.hid (IsRecs.below wishK HI59.out (hb.mono (by omega : w5.heap.size ≤ W9.heap.size)) (Nat.le_refl _))
  have hzp := hb.size
  clear hb
  go_wp2_with fail
  refine (parse_at _ src_s6 _ _ _ wp (by kernel_rfl) (HL.out.below HBwp.out h4) (by decide +kernel) ex_s6).mono ?_
  rintro e w6 ⟨a6, c6, rfl, hi, hb⟩
  have HI6 := Lib.hid hi
  have HBw6 : Hid (Below w.heap.size w w6) := Lib.hid (HBwp.out.trans (hb.mono HBwp.out.size))
  have HI76 := Lib.hid (IsRecs.below wishK HI7p.out (hb.mono (by omega : W7.heap.size ≤ wp.heap.size)) (Nat.le_refl _))
  have HI56 := Lib.hid (IsRecs.below wishK HI5p.out (hb.mono (by omega : w5.heap.size ≤ wp.heap.size)) (Nat.le_refl _))
  have hz6 := hb.size
  clear hi hb
  obtain ⟨WB, hWB⟩ : ∃ W, w6.alloc (.cells #[.string ⟨#[97]⟩, .string ⟨#[120]⟩, .string ⟨#[98, 111]⟩, .string ⟨#[99]⟩, .int .i64 1, .int .i64 2, .int .i64 64, .int .i64 0, .slice none 0 0, .bool false, .int .i64 0, .string ⟨#[98]⟩, .string ⟨#[121]⟩, .string ⟨#[97, 108]⟩, .string ⟨#[99]⟩, .int .i64 2097151, .int .i64 0, .int .i64 0, .int .i64 1, .slice none 0 0, .bool false, .int .i64 2] 34) = W := ⟨_, rfl⟩
  have hbB : Below w6.heap.size w6 WB := by rw [← hWB]; exact box_below' w6 _
  have HBWB : Hid (Below w.heap.size w WB) := Lib.hid (HBw6.out.trans (hbB.mono HBw6.out.size))
  have HIB : Hid (IsWishes WB.heap.size WB (.slice (some ⟨w6.heap.size, 0, none⟩) 2 2) [exA, exB]) := Lib.hid (by
    have k2 : CellsN WB w6.heap.size ((([(Value.slice none 0 0, exA), (Value.slice none 0 0, exB)] : List (Value × WishD)).map fun p => wishC p.1 p.2).flatten).toArray := by
      rw [← hWB]; exact CellsN.new w6 #[.string ⟨#[97]⟩, .string ⟨#[120]⟩, .string ⟨#[98, 111]⟩, .string ⟨#[99]⟩, .int .i64 1, .int .i64 2, .int .i64 64, .int .i64 0, .slice none 0 0, .bool false, .int .i64 0, .string ⟨#[98]⟩, .string ⟨#[121]⟩, .string ⟨#[97, 108]⟩, .string ⟨#[99]⟩, .int .i64 2097151, .int .i64 0, .int .i64 0, .int .i64 1, .slice none 0 0, .bool false, .int .i64 2] 34
    refine wishes_of _ k2 k2.lt (fun p hp => ?_) (by simp) rfl _ rfl
    rcases List.mem_cons.1 hp with rfl | hp
    · exact ⟨IsRecs.nil, okW_a⟩
    · obtain rfl := List.mem_singleton.1 hp
      exact ⟨IsRecs.nil, okW_b⟩)
  have hzB : w6.heap.size ≤ WB.heap.size := hbB.size
  have HI7B := Lib.hid ((IsRecs.below wishK HI76.out (hbB.mono (by omega : W7.heap.size ≤ w6.heap.size)) (Nat.le_refl _)).mono wishK (by omega : W7.heap.size ≤ WB.heap.size))
  have HI5B := Lib.hid ((IsRecs.below wishK HI56.out (hbB.mono (by omega : w5.heap.size ≤ w6.heap.size)) (Nat.le_refl _)).mono wishK (by omega : w5.heap.size ≤ WB.heap.size))
  have HI6B := Lib.hid ((IsRecs.below wishK HI6.out hbB (Nat.le_refl _)).mono wishK hzB)
  have HWB := Lib.hid hWB
  clear hbB hWB
  go_upto_region 12 with fail
  rw [HWB.out]
  obtain ⟨es1, es2, es3, es4⟩ := ex_same
  have HE1 := Lib.hid es1
  have HE2 := Lib.hid es2
  have HE3 := Lib.hid es3
  have HE4 := Lib.hid es4
  clear es1 es2 es3 es4
  go_wp2_with fail
  refine (rsame17_any WB.heap.size WB _ _ [exWant] [exWant] (Nat.le_refl _) HI5B.out HI7B.out).mono ?_
  rintro e x1 ⟨rfl, hb1⟩
  rw [HE3.out]
  have hs1 := hb1.size
  go_wp2_with fail
  refine (rsame17_any WB.heap.size x1 _ _ [exA, exB] [exA, exB] hs1 (IsRecs.below wishK HI6B.out hb1 (Nat.le_refl _)) (IsRecs.below wishK HIB.out hb1 (Nat.le_refl _))).mono ?_
  rintro e x2 ⟨rfl, hb2⟩
  rw [HE1.out]
  have hb12 := hb1.trans (hb2.mono hs1)
  have hs2 := hb12.size
  go_wp2_with fail
  refine (same17_any WB.heap.size x2 _ _ [exA, exB] [exA, exB] hs2 (IsRecs.below wishK HI6B.out hb12 (Nat.le_refl _)) (IsRecs.below wishK HIB.out hb12 (Nat.le_refl _))).mono ?_
  rintro e x3 ⟨rfl, hb3⟩
  rw [HE1.out]
  have hb13 := hb12.trans (hb3.mono hs2)
  have hs3 := hb13.size
  go_wp2_with fail
  refine (same17_any WB.heap.size x3 _ _ [exA, exB] [exWant] hs3 (IsRecs.below wishK HIB.out hb13 (Nat.le_refl _)) (IsRecs.below wishK HI7B.out hb13 (Nat.le_refl _))).mono ?_
  rintro e x4 ⟨rfl, hb4⟩
  rw [HE2.out]
  have hb14 := hb13.trans (hb4.mono hs3)
  have hs4 := hb14.size
  go_wp2_with fail
  refine (same17_any WB.heap.size x4 _ _ [] [] hs4 IsRecs.nil IsRecs.nil).mono ?_
  rintro e x5 ⟨rfl, hb5⟩
  rw [HE4.out]
  have HBF : Hid (Below w.heap.size w x5) := Lib.hid (HBWB.out.trans ((hb14.trans (hb5.mono hs4)).mono HBWB.out.size))
  clear hb1 hb2 hb12 hb3 hb13 hb4 hb14 hb5
  go_wp2
  go_ret
  exact ⟨rfl, HBF.out⟩
end Go.Proofs.YtfnmidddgjlipaaGreatDoor
