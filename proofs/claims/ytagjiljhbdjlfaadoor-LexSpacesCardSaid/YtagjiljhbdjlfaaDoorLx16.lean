/-
  Layer 3: the walk of frankinglaw03.sane (printed by tools/sane03.py).
-/
import Derived.Test.YtagjiljhbdjlfaaDoorLx15
set_option linter.unusedVariables false
set_option linter.unusedSimpArgs false
namespace Go.Proofs.YtagjiljhbdjlfaaDoor
open Go.RowKit

/-- tokens in memory as the world stands -/
def Tk (w : World) (v : Value) (ts : List Tok) : Prop := IsToks w.heap.size w v ts
theorem Tk.ext {w w' : World} {v : Value} {ts : List Tok} (h : Tk w v ts) (hb : Below w.heap.size w w') : Tk w' v ts := (IsToks.below h hb (Nat.le_refl _)).mono hb.size
theorem Tk.of {C : Nat} {w : World} {v : Value} {ts : List Tok} (h : OwnToks C w v ts) : Tk w v ts := h.isToks
def okB (t : Tok) : Bool := decide (-9223372036854775808 ≤ t.kind) && decide (t.kind ≤ 9223372036854775807) && decide (t.text.length ≤ 1000) && decide (-9223372036854775808 ≤ t.n) && decide (t.n ≤ 9223372036854775807) && decide (-9223372036854775808 ≤ t.pos) && decide (t.pos ≤ 9223372036854775807)
theorem okB_all {ts : List Tok} (h : ts.all okB = true) : ∀ u ∈ ts, okT u := by
  intro u hu
  have := List.all_eq_true.1 h u hu
  unfold okB at this
  simp only [Bool.and_eq_true, decide_eq_true_eq] at this
  obtain ⟨⟨⟨⟨⟨⟨a1, a2⟩, a3⟩, a4⟩, a5⟩, a6⟩, a7⟩ := this
  exact ⟨⟨a1, a2⟩, by omega, ⟨a4, a5⟩, ⟨a6, a7⟩⟩
theorem Tk.new (w : World) (ts : List Tok) (t : TypeId) (hok0 : ts.all okB = true) (hl : ts.length ≤ 1000) : Tk (w.alloc (.cells (flatT ts).toArray t)) (.slice (some ⟨w.heap.size, 0, none⟩) ts.length ts.length) ts := by
  have hok := okB_all hok0
  refine ⟨w.heap.size, 0, ts.length, ⟨_, rfl, Nat.le_refl _, by omega, .inl rfl⟩, by omega, hok, fun j hj => ?_⟩
  have hc : CellsN (w.alloc (.cells (flatT ts).toArray t)) w.heap.size (flatT ts).toArray := CellsN.new _ _ _
  have key : ∀ q, q < 4 → (w.alloc (.cells (flatT ts).toArray t)).cell? ⟨w.heap.size, 0 + j * 4 + q, none⟩ = (tokC (tokAt ts j))[q]? := fun q hq => by
    rw [hc.cell, ← flatT_get ts j hj q hq]
    simp
  have hlt : w.heap.size < (w.alloc (.cells (flatT ts).toArray t)).heap.size := by simp
  exact ⟨⟨hlt, key 0 (by omega)⟩, ⟨hlt, key 1 (by omega)⟩, ⟨hlt, key 2 (by omega)⟩, ⟨hlt, key 3 (by omega)⟩⟩

theorem Tk.newS (w : World) (s : ByteArray) (t : TypeId) (hok : okT ⟨1, s.data.toList, 0, 0⟩) : Tk (w.alloc (.cells #[.int .i64 1, .string s, .int .i64 0, .int .i64 0] t)) (.slice (some ⟨w.heap.size, 0, none⟩) 1 1) [⟨1, s.data.toList, 0, 0⟩] := by
  refine ⟨w.heap.size, 0, 1, ⟨_, rfl, Nat.le_refl _, by omega, .inl rfl⟩, by simp, fun u hu => by obtain rfl := List.mem_singleton.1 hu; exact hok, fun j hj => ?_⟩
  obtain rfl : j = 0 := by simpa using hj
  have hlt : w.heap.size < (w.alloc (.cells #[.int .i64 1, .string s, .int .i64 0, .int .i64 0] t)).heap.size := by simp
  exact ⟨⟨hlt, World.cell?_alloc_at _ _ _ _ rfl⟩, ⟨hlt, World.cell?_alloc_at _ _ _ _ rfl⟩, ⟨hlt, World.cell?_alloc_at _ _ _ _ rfl⟩, ⟨hlt, World.cell?_alloc_at _ _ _ _ rfl⟩⟩

theorem lexc0 : lexT [115, 117, 109, 32, 51, 48, 59] = [Tok.mk 1 [115, 117, 109] 0 0, Tok.mk 2 [] 30 4, Tok.mk 3 [59] 0 6] ∧ lexP [115, 117, 109, 32, 51, 48, 59] = 0 ∧ lexE [115, 117, 109, 32, 51, 48, 59] = 0 := by decide +kernel
theorem lexc2 : lexT [48, 48, 55] = [] ∧ lexP [48, 48, 55] = 0 ∧ lexE [48, 48, 55] = 30 := by decide +kernel
theorem lexc3 : lexT [49, 48, 57, 57, 53, 49, 49, 54, 50, 55, 55, 55, 54] = [Tok.mk 2 [] 1099511627776 0] ∧ lexP [49, 48, 57, 57, 53, 49, 49, 54, 50, 55, 55, 55, 54] = 0 ∧ lexE [49, 48, 57, 57, 53, 49, 49, 54, 50, 55, 55, 55, 54] = 0 := by decide +kernel
theorem lexc4 : lexT [97, 32, 47, 47, 32, 98] = [Tok.mk 1 [97] 0 0] ∧ lexP [97, 32, 47, 47, 32, 98] = 0 ∧ lexE [97, 32, 47, 47, 32, 98] = 0 := by decide +kernel
theorem lexc5 : lexT [97, 32, 36] = [] ∧ lexP [97, 32, 36] = 2 ∧ lexE [97, 32, 36] = 30 := by decide +kernel
theorem lexc6 : lexT [97, 61, 49] = [Tok.mk 1 [97] 0 0, Tok.mk 3 [61] 0 1, Tok.mk 2 [] 1 2] ∧ lexP [97, 61, 49] = 0 ∧ lexE [97, 61, 49] = 0 := by decide +kernel
theorem lexc8 : lexT [] = [] ∧ lexP [] = 0 ∧ lexE [] = 0 := by decide +kernel
theorem textc : textL [Tok.mk 1 [97] 0 0, Tok.mk 3 [61] 0 1, Tok.mk 2 [] 1 2] = [97, 32, 61, 32, 49] ∧ textE [Tok.mk 1 [97] 0 0, Tok.mk 3 [61] 0 1, Tok.mk 2 [] 1 2] = 0 := by decide +kernel
theorem textd : textL [⟨0, [], 0, 0⟩] = [] ∧ textE [⟨0, [], 0, 0⟩] = 30 := by decide +kernel

set_option maxHeartbeats 4000000 in
set_option maxRecDepth 100000 in
theorem sane_any (w : World) (hL : LaidW w) : Calls Tryd.prog 11 #[] w fun e w' => e = .returned (.bool true) ∧ Below w.heap.size w w' := by
  have HL0 := Lib.hid hL
  have HB0 : Hid (Below w.heap.size w w) := Lib.hid (Below.refl _ _)
  have h4 := hL.size
  clear hL
  go_enter Tryd.func11, Tryd.ntmps11

  go_wp2_with fail
  refine (lex_any ⟨#[115, 117, 109, 32, 51, 48, 59]⟩ _ HL0.out (by decide)).mono ?_
  rintro e w1 ⟨v0, rfl, ho, hb⟩
  rw [show lexP (⟨#[115, 117, 109, 32, 51, 48, 59]⟩ : ByteArray).data.toList = 0 from lexc0.2.1, show lexE (⟨#[115, 117, 109, 32, 51, 48, 59]⟩ : ByteArray).data.toList = 0 from lexc0.2.2]
  have ho2 : OwnToks _ w1 v0 [Tok.mk 1 [115, 117, 109] 0 0, Tok.mk 2 [] 30 4, Tok.mk 3 [59] 0 6] := (show lexT (⟨#[115, 117, 109, 32, 51, 48, 59]⟩ : ByteArray).data.toList = [Tok.mk 1 [115, 117, 109] 0 0, Tok.mk 2 [] 30 4, Tok.mk 3 [59] 0 6] from lexc0.1) ▸ ho
  have HB1 : Hid (Below w.heap.size w w1) := Lib.hid (HB0.out.trans (hb.mono HB0.out.size))
  obtain ⟨a0, c0, hf⟩ := ho2.form
  rw [hf] at ho2
  subst hf
  have HI0 := Lib.hid (Tk.of ho2)
  clear ho ho2 hb
  go_upto_region 3 with fail
  obtain ⟨w2, hw⟩ : ∃ W, w1.alloc (.cells #[.int .i64 1, .string ⟨#[115, 117, 109]⟩, .int .i64 0, .int .i64 0, .int .i64 2, .string ⟨#[]⟩, .int .i64 30, .int .i64 4, .int .i64 3, .string ⟨#[59]⟩, .int .i64 0, .int .i64 6] 35) = W := ⟨_, rfl⟩
  have hb : Below w1.heap.size w1 w2 := by rw [← hw]; exact box_below' _ _
  have HI1 : Hid (Tk w2 (.slice (some ⟨w1.heap.size, 0, none⟩) 3 3) [Tok.mk 1 [115, 117, 109] 0 0, Tok.mk 2 [] 30 4, Tok.mk 3 [59] 0 6]) := Lib.hid (by rw [← hw]; exact Tk.new w1 [Tok.mk 1 [115, 117, 109] 0 0, Tok.mk 2 [] 30 4, Tok.mk 3 [59] 0 6] _ (by decide +kernel) (by decide))
  have HB2 : Hid (Below w.heap.size w w2) := Lib.hid (HB1.out.trans (hb.mono HB1.out.size))
  replace HI0 := Lib.hid (HI0.out.ext hb)
  rw [hw]
  clear hw hb
  go_wp2_with fail
  refine (lex_any ⟨#[48, 48, 55]⟩ _ (HL0.out.below HB2.out h4) (by decide)).mono ?_
  rintro e w3 ⟨v2, rfl, ho, hb⟩
  rw [show lexP (⟨#[48, 48, 55]⟩ : ByteArray).data.toList = 0 from lexc2.2.1, show lexE (⟨#[48, 48, 55]⟩ : ByteArray).data.toList = 30 from lexc2.2.2]
  have ho2 : OwnToks _ w3 v2 [] := (show lexT (⟨#[48, 48, 55]⟩ : ByteArray).data.toList = [] from lexc2.1) ▸ ho
  have HB3 : Hid (Below w.heap.size w w3) := Lib.hid (HB2.out.trans (hb.mono HB2.out.size))
  replace HI0 := Lib.hid (HI0.out.ext hb)
  replace HI1 := Lib.hid (HI1.out.ext hb)
  obtain ⟨a2, c2, hf⟩ := ho2.form
  rw [hf] at ho2
  subst hf
  have HI2 := Lib.hid (Tk.of ho2)
  clear ho ho2 hb
  go_wp2_with fail
  refine (lex_any ⟨#[49, 48, 57, 57, 53, 49, 49, 54, 50, 55, 55, 55, 54]⟩ _ (HL0.out.below HB3.out h4) (by decide)).mono ?_
  rintro e w4 ⟨v3, rfl, ho, hb⟩
  rw [show lexP (⟨#[49, 48, 57, 57, 53, 49, 49, 54, 50, 55, 55, 55, 54]⟩ : ByteArray).data.toList = 0 from lexc3.2.1, show lexE (⟨#[49, 48, 57, 57, 53, 49, 49, 54, 50, 55, 55, 55, 54]⟩ : ByteArray).data.toList = 0 from lexc3.2.2]
  have ho2 : OwnToks _ w4 v3 [Tok.mk 2 [] 1099511627776 0] := (show lexT (⟨#[49, 48, 57, 57, 53, 49, 49, 54, 50, 55, 55, 55, 54]⟩ : ByteArray).data.toList = [Tok.mk 2 [] 1099511627776 0] from lexc3.1) ▸ ho
  have HB4 : Hid (Below w.heap.size w w4) := Lib.hid (HB3.out.trans (hb.mono HB3.out.size))
  replace HI0 := Lib.hid (HI0.out.ext hb)
  replace HI1 := Lib.hid (HI1.out.ext hb)
  replace HI2 := Lib.hid (HI2.out.ext hb)
  obtain ⟨a3, c3, hf⟩ := ho2.form
  rw [hf] at ho2
  subst hf
  have HI3 := Lib.hid (Tk.of ho2)
  clear ho ho2 hb
  go_wp2_with fail
  refine (lex_any ⟨#[97, 32, 47, 47, 32, 98]⟩ _ (HL0.out.below HB4.out h4) (by decide)).mono ?_
  rintro e w5 ⟨v4, rfl, ho, hb⟩
  rw [show lexP (⟨#[97, 32, 47, 47, 32, 98]⟩ : ByteArray).data.toList = 0 from lexc4.2.1, show lexE (⟨#[97, 32, 47, 47, 32, 98]⟩ : ByteArray).data.toList = 0 from lexc4.2.2]
  have ho2 : OwnToks _ w5 v4 [Tok.mk 1 [97] 0 0] := (show lexT (⟨#[97, 32, 47, 47, 32, 98]⟩ : ByteArray).data.toList = [Tok.mk 1 [97] 0 0] from lexc4.1) ▸ ho
  have HB5 : Hid (Below w.heap.size w w5) := Lib.hid (HB4.out.trans (hb.mono HB4.out.size))
  replace HI0 := Lib.hid (HI0.out.ext hb)
  replace HI1 := Lib.hid (HI1.out.ext hb)
  replace HI2 := Lib.hid (HI2.out.ext hb)
  replace HI3 := Lib.hid (HI3.out.ext hb)
  obtain ⟨a4, c4, hf⟩ := ho2.form
  rw [hf] at ho2
  subst hf
  have HI4 := Lib.hid (Tk.of ho2)
  clear ho ho2 hb
  go_wp2_with fail
  refine (lex_any ⟨#[97, 32, 36]⟩ _ (HL0.out.below HB5.out h4) (by decide)).mono ?_
  rintro e w6 ⟨v5, rfl, ho, hb⟩
  rw [show lexP (⟨#[97, 32, 36]⟩ : ByteArray).data.toList = 2 from lexc5.2.1, show lexE (⟨#[97, 32, 36]⟩ : ByteArray).data.toList = 30 from lexc5.2.2]
  have ho2 : OwnToks _ w6 v5 [] := (show lexT (⟨#[97, 32, 36]⟩ : ByteArray).data.toList = [] from lexc5.1) ▸ ho
  have HB6 : Hid (Below w.heap.size w w6) := Lib.hid (HB5.out.trans (hb.mono HB5.out.size))
  replace HI0 := Lib.hid (HI0.out.ext hb)
  replace HI1 := Lib.hid (HI1.out.ext hb)
  replace HI2 := Lib.hid (HI2.out.ext hb)
  replace HI3 := Lib.hid (HI3.out.ext hb)
  replace HI4 := Lib.hid (HI4.out.ext hb)
  obtain ⟨a5, c5, hf⟩ := ho2.form
  rw [hf] at ho2
  subst hf
  have HI5 := Lib.hid (Tk.of ho2)
  clear ho ho2 hb
  go_wp2_with fail
  refine (lex_any ⟨#[97, 61, 49]⟩ _ (HL0.out.below HB6.out h4) (by decide)).mono ?_
  rintro e w7 ⟨v6, rfl, ho, hb⟩
  rw [show lexP (⟨#[97, 61, 49]⟩ : ByteArray).data.toList = 0 from lexc6.2.1, show lexE (⟨#[97, 61, 49]⟩ : ByteArray).data.toList = 0 from lexc6.2.2]
  have ho2 : OwnToks _ w7 v6 [Tok.mk 1 [97] 0 0, Tok.mk 3 [61] 0 1, Tok.mk 2 [] 1 2] := (show lexT (⟨#[97, 61, 49]⟩ : ByteArray).data.toList = [Tok.mk 1 [97] 0 0, Tok.mk 3 [61] 0 1, Tok.mk 2 [] 1 2] from lexc6.1) ▸ ho
  have HB7 : Hid (Below w.heap.size w w7) := Lib.hid (HB6.out.trans (hb.mono HB6.out.size))
  replace HI0 := Lib.hid (HI0.out.ext hb)
  replace HI1 := Lib.hid (HI1.out.ext hb)
  replace HI2 := Lib.hid (HI2.out.ext hb)
  replace HI3 := Lib.hid (HI3.out.ext hb)
  replace HI4 := Lib.hid (HI4.out.ext hb)
  replace HI5 := Lib.hid (HI5.out.ext hb)
  obtain ⟨a6, c6, hf⟩ := ho2.form
  rw [hf] at ho2
  subst hf
  have HI6 := Lib.hid (Tk.of ho2)
  clear ho ho2 hb
  go_wp2_with fail
  refine (text_any w7.heap.size _ _ [Tok.mk 1 [97] 0 0, Tok.mk 3 [61] 0 1, Tok.mk 2 [] 1 2] (HL0.out.below HB7.out h4) (Nat.le_refl _) HI6.out (by decide) (by decide)).mono ?_
  rintro e w8 ⟨rfl, hb⟩
  rw [textc.1, textc.2]
  have HB8 : Hid (Below w.heap.size w w8) := Lib.hid (HB7.out.trans (hb.mono HB7.out.size))
  replace HI0 := Lib.hid (HI0.out.ext hb)
  replace HI1 := Lib.hid (HI1.out.ext hb)
  replace HI2 := Lib.hid (HI2.out.ext hb)
  replace HI3 := Lib.hid (HI3.out.ext hb)
  replace HI4 := Lib.hid (HI4.out.ext hb)
  replace HI5 := Lib.hid (HI5.out.ext hb)
  replace HI6 := Lib.hid (HI6.out.ext hb)
  clear hb
  go_wp2_with fail
  refine (lex_any ⟨#[]⟩ _ (HL0.out.below HB8.out h4) (by decide)).mono ?_
  rintro e w9 ⟨v8, rfl, ho, hb⟩
  rw [show lexP (⟨#[]⟩ : ByteArray).data.toList = 0 from lexc8.2.1, show lexE (⟨#[]⟩ : ByteArray).data.toList = 0 from lexc8.2.2]
  have ho2 : OwnToks _ w9 v8 [] := (show lexT (⟨#[]⟩ : ByteArray).data.toList = [] from lexc8.1) ▸ ho
  have HB9 : Hid (Below w.heap.size w w9) := Lib.hid (HB8.out.trans (hb.mono HB8.out.size))
  replace HI0 := Lib.hid (HI0.out.ext hb)
  replace HI1 := Lib.hid (HI1.out.ext hb)
  replace HI2 := Lib.hid (HI2.out.ext hb)
  replace HI3 := Lib.hid (HI3.out.ext hb)
  replace HI4 := Lib.hid (HI4.out.ext hb)
  replace HI5 := Lib.hid (HI5.out.ext hb)
  replace HI6 := Lib.hid (HI6.out.ext hb)
  obtain ⟨a8, c8, hf⟩ := ho2.form
  rw [hf] at ho2
  subst hf
  have HI8 := Lib.hid (Tk.of ho2)
  clear ho ho2 hb
  go_wp2_with fail
  have HN := Lib.hid (Tk.new w9 [Tok.mk 0 [] 0 0] 35 (by decide +kernel) (by decide))
  have HBA : Hid (Below w9.heap.size w9 (w9.alloc (.cells #[.int .i64 0, .string ⟨#[]⟩, .int .i64 0, .int .i64 0] 35))) := Lib.hid (box_below' _ _)
  refine (text_any _ _ _ [Tok.mk 0 [] 0 0] (HL0.out.below (HB9.out.trans (HBA.out.mono HB9.out.size)) h4) (Nat.le_refl _) HN.out (by decide) (by decide)).mono ?_
  rintro e w10 ⟨rfl, hb0⟩
  rw [textd.1, textd.2]
  have hb := HBA.out.trans (hb0.mono HBA.out.size)
  have HB10 : Hid (Below w.heap.size w w10) := Lib.hid (HB9.out.trans (hb.mono HB9.out.size))
  replace HI0 := Lib.hid (HI0.out.ext hb)
  replace HI1 := Lib.hid (HI1.out.ext hb)
  replace HI2 := Lib.hid (HI2.out.ext hb)
  replace HI3 := Lib.hid (HI3.out.ext hb)
  replace HI4 := Lib.hid (HI4.out.ext hb)
  replace HI5 := Lib.hid (HI5.out.ext hb)
  replace HI6 := Lib.hid (HI6.out.ext hb)
  replace HI8 := Lib.hid (HI8.out.ext hb)
  clear hb hb0 HN HBA
  go_wp2_with fail
  refine (equal_any w10.heap.size w10 _ _ [Tok.mk 1 [115, 117, 109] 0 0, Tok.mk 2 [] 30 4, Tok.mk 3 [59] 0 6] [Tok.mk 1 [115, 117, 109] 0 0, Tok.mk 2 [] 30 4, Tok.mk 3 [59] 0 6] HI0.out HI1.out).mono ?_
  rintro e w11 ⟨rfl, hd⟩
  rw [show eqT [Tok.mk 1 [115, 117, 109] 0 0, Tok.mk 2 [] 30 4, Tok.mk 3 [59] 0 6] [Tok.mk 1 [115, 117, 109] 0 0, Tok.mk 2 [] 30 4, Tok.mk 3 [59] 0 6] = true from by decide +kernel]
  have hb := hd.below w10.heap.size
  have HB11 : Hid (Below w.heap.size w w11) := Lib.hid (HB10.out.trans (hb.mono HB10.out.size))
  replace HI0 := Lib.hid (HI0.out.ext hb)
  replace HI1 := Lib.hid (HI1.out.ext hb)
  replace HI2 := Lib.hid (HI2.out.ext hb)
  replace HI3 := Lib.hid (HI3.out.ext hb)
  replace HI4 := Lib.hid (HI4.out.ext hb)
  replace HI5 := Lib.hid (HI5.out.ext hb)
  replace HI6 := Lib.hid (HI6.out.ext hb)
  replace HI8 := Lib.hid (HI8.out.ext hb)
  clear hb hd
  obtain ⟨b3, o3, rfl, _, _, _, g3, _⟩ := IsToks.cells (ts := [Tok.mk 2 [] 1099511627776 0]) HI3.out (k := 0) (by decide)
  obtain ⟨b4, o4, rfl, _, _, g4, _, _⟩ := IsToks.cells (ts := [Tok.mk 1 [97] 0 0]) HI4.out (k := 0) (by decide)
  simp only [show tokAt [Tok.mk 2 [] 1099511627776 0] 0 = Tok.mk 2 [] 1099511627776 0 from rfl, Nat.zero_mul, Nat.add_zero] at g3
  simp only [show tokAt [Tok.mk 1 [97] 0 0] 0 = Tok.mk 1 [97] 0 0 from rfl, Nat.zero_mul, Nat.add_zero] at g4
  go_wp2_with fail
  refine (name_any ⟨#[66, 95, 49, 50]⟩ _ (by decide)).mono ?_
  rintro e w12 ⟨rfl, rfl⟩
  rw [show nameB (⟨#[66, 95, 49, 50]⟩ : ByteArray).data.toList = true from by decide]
  go_wp2_with fail
  refine (name_any ⟨#[95, 49, 50]⟩ _ (by decide)).mono ?_
  rintro e w13 ⟨rfl, rfl⟩
  rw [show nameB (⟨#[95, 49, 50]⟩ : ByteArray).data.toList = false from by decide]
  go_wp2_with fail
  refine (same_any w13.heap.size w13 _ _ [Tok.mk 1 [97] 0 0] [Tok.mk 1 [97] 0 0, Tok.mk 3 [61] 0 1, Tok.mk 2 [] 1 2] (Nat.le_refl _) HI4.out HI6.out).mono ?_
  rintro e w14 ⟨rfl, hb⟩
  rw [show sameT [Tok.mk 1 [97] 0 0] [Tok.mk 1 [97] 0 0, Tok.mk 3 [61] 0 1, Tok.mk 2 [] 1 2] = false from by decide +kernel]
  have HB14 : Hid (Below w.heap.size w w14) := Lib.hid (HB11.out.trans (hb.mono HB11.out.size))
  replace HI4 := Lib.hid (HI4.out.ext hb)
  clear hb g3 g4 HI0 HI1 HI2 HI3 HI5 HI6 HI8
  go_wp2_with fail
  have HN := Lib.hid (Tk.new w14 [Tok.mk 1 [97] 0 9] 35 (by decide +kernel) (by decide))
  have HBA : Hid (Below w14.heap.size w14 (w14.alloc (.cells #[.int .i64 1, .string ⟨#[97]⟩, .int .i64 0, .int .i64 9] 35))) := Lib.hid (box_below' _ _)
  refine (same_any _ _ _ _ [Tok.mk 1 [97] 0 0] [Tok.mk 1 [97] 0 9] (Nat.le_refl _) (HI4.out.ext HBA.out) HN.out).mono ?_
  rintro e w15 ⟨rfl, hb⟩
  rw [show sameT [Tok.mk 1 [97] 0 0] [Tok.mk 1 [97] 0 9] = true from by decide +kernel]
  have HB15 : Hid (Below w.heap.size w w15) := Lib.hid (HB14.out.trans ((HBA.out.trans (hb.mono HBA.out.size)).mono HB14.out.size))
  clear hb HN HBA
  go_wp2
  go_ret
  exact ⟨rfl, HB15.out⟩
end Go.Proofs.YtagjiljhbdjlfaaDoor
