/-
  Layer 17: lists of strings and wishes in memory.
-/
import Derived.Test.YtfnmidddgjlipaaGreatDoorRec
import Derived.Test.YtfnmidddgjlipaaGreatDoorSo0
import Derived.Test.YtfnmidddgjlipaaGreatDoorLx15
set_option linter.unusedVariables false
set_option linter.unusedSimpArgs false
namespace Go.Proofs.YtfnmidddgjlipaaGreatDoor
open Go.RowKit

def strR (B : Nat) (w : World) (c : List Value) (x : Str) : Prop := c = [strV x] ∧ x.length ≤ 140737488351232
theorem strK : RecK 1 strR := ⟨fun h => by rw [h.1]; rfl, fun h u hu => by rw [h.1] at hu; obtain rfl := List.mem_singleton.1 hu; rfl, fun h _ _ => h, fun h _ => h⟩
abbrev IsStrs := IsRecs 1 strR 8796093022208 ([] : Str)
abbrev OwnStrs := OwnRecs 9 1 strR 8796093022208 ([] : Str)
theorem str_inf : (Tryz.prog.info? 9).map (fun i => (i.zero, i.size, i.bytes)) = some (some (.string ByteArray.empty), 1, 16) := by kernel_rfl
theorem IsStrs.cell {B : Nat} {w : World} {a : Option Addr} {c : Nat} {xs : List Str} (h : IsStrs B w (.slice a xs.length c) xs) {k : Nat} (hk : k < xs.length) : ∃ b off, a = some ⟨b, off, none⟩ ∧ b < B ∧ w.cell? ⟨b, off + k, none⟩ = some (strV (strAt xs k)) ∧ (strAt xs k).length ≤ 140737488351232 := by
  obtain ⟨b, off, cs, h1, h2, ⟨h3, h4⟩, h5⟩ := h.cells strK (by decide) hk
  refine ⟨b, off, h1, h2, ?_, h4⟩
  have := h5 0 (strV (xs.getD k [])) (by rw [h3]; rfl)
  rw [Nat.mul_one, Nat.add_zero] at this
  exact this

def okW (x : WishD) : Prop := x.name.length ≤ 140737488351232 ∧ x.frm.length ≤ 140737488351232 ∧ x.to.length ≤ 140737488351232 ∧ x.cls.length ≤ 140737488351232 ∧ I64 x.after ∧ I64 x.by_ ∧ I64 x.crowd ∧ I64 x.pay ∧ I64 x.els
def wishC (va : Value) (x : WishD) : List Value := [strV x.name, strV x.frm, strV x.to, strV x.cls, .int .i64 x.after, .int .i64 x.by_, .int .i64 x.crowd, .int .i64 x.pay, va, .bool x.back, .int .i64 x.els]
def wishR (B : Nat) (w : World) (c : List Value) (x : WishD) : Prop := ∃ va, c = wishC va x ∧ IsStrs B w va x.against ∧ okW x
theorem IsStrs.one {B : Nat} {w : World} {v : Value} {xs : List Str} (h : IsStrs B w v xs) : v.oneCell' = true := by
  obtain ⟨a, c, rfl, _⟩ := h.form; rfl
theorem isInts_one {B : Nat} {w : World} {v : Value} {xs : List Int} (h : IsInts B w v xs) : v.oneCell' = true := by
  obtain ⟨b, off, cap, ⟨a, rfl, _⟩, _⟩ := h; rfl
theorem wishK : RecK 11 wishR := by
  refine ⟨?_, ?_, ?_, ?_⟩
  · rintro B w c d ⟨va, rfl, _⟩; rfl
  · rintro B w c d ⟨va, rfl, h, _⟩ u hu
    simp only [wishC, List.mem_cons, List.not_mem_nil, or_false] at hu
    rcases hu with rfl | rfl | rfl | rfl | rfl | rfl | rfl | rfl | rfl | rfl | rfl
    all_goals first | rfl | exact h.one
  · rintro B B' w w' c d ⟨va, e, h, ho⟩ hb hB; exact ⟨va, e, h.below strK hb hB, ho⟩
  · rintro B B' w c d ⟨va, e, h, ho⟩ hB; exact ⟨va, e, h.mono strK hB, ho⟩
abbrev IsWishes := IsRecs 11 wishR 1034834473200 (default : WishD)
/-- the cells of one wish -/
theorem IsWishes.cell {B : Nat} {w : World} {a : Option Addr} {c : Nat} {xs : List WishD} (h : IsWishes B w (.slice a xs.length c) xs) {k : Nat} (hk : k < xs.length) : ∃ b off va, a = some ⟨b, off, none⟩ ∧ b < B ∧ IsStrs B w va (wishAt xs k).against ∧ okW (wishAt xs k) ∧
    w.cell? ⟨b, off + k * 11, none⟩ = some (strV (wishAt xs k).name) ∧ w.cell? ⟨b, off + k * 11 + 1, none⟩ = some (strV (wishAt xs k).frm) ∧ w.cell? ⟨b, off + k * 11 + 2, none⟩ = some (strV (wishAt xs k).to) ∧ w.cell? ⟨b, off + k * 11 + 3, none⟩ = some (strV (wishAt xs k).cls) ∧
    w.cell? ⟨b, off + k * 11 + 4, none⟩ = some (.int .i64 (wishAt xs k).after) ∧ w.cell? ⟨b, off + k * 11 + 5, none⟩ = some (.int .i64 (wishAt xs k).by_) ∧ w.cell? ⟨b, off + k * 11 + 6, none⟩ = some (.int .i64 (wishAt xs k).crowd) ∧ w.cell? ⟨b, off + k * 11 + 7, none⟩ = some (.int .i64 (wishAt xs k).pay) ∧
    w.cell? ⟨b, off + k * 11 + 8, none⟩ = some va ∧ w.cell? ⟨b, off + k * 11 + 9, none⟩ = some (.bool (wishAt xs k).back) ∧ w.cell? ⟨b, off + k * 11 + 10, none⟩ = some (.int .i64 (wishAt xs k).els) := by
  obtain ⟨b, off, cs, h1, h2, ⟨va, h3, h4, h6⟩, h5⟩ := h.cells wishK (by decide) hk
  subst h3
  exact ⟨b, off, va, h1, h2, h4, h6, h5 0 _ rfl, h5 1 _ rfl, h5 2 _ rfl, h5 3 _ rfl, h5 4 _ rfl, h5 5 _ rfl, h5 6 _ rfl, h5 7 _ rfl, h5 8 _ rfl, h5 9 _ rfl, h5 10 _ rfl⟩
end Go.Proofs.YtfnmidddgjlipaaGreatDoor
