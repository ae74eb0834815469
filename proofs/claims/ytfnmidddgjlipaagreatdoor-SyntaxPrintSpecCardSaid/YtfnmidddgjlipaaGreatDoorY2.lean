/-
  Layer 17: the parser in memory.
-/
import Derived.Test.YtfnmidddgjlipaaGreatDoorYw
import Derived.Test.YtfnmidddgjlipaaGreatDoorY1
set_option linter.unusedVariables false
set_option linter.unusedSimpArgs false
namespace Go.Proofs.YtfnmidddgjlipaaGreatDoor
open Go.RowKit

/-- the parser's cells: tokens, length of the source, the order -/
def parC (lv : Value) (stop : Int) (va : Value) (x : WishD) : Array Value := #[lv, .int .i64 stop, strV x.name, strV x.frm, strV x.to, strV x.cls, .int .i64 x.after, .int .i64 x.by_, .int .i64 x.crowd, .int .i64 x.pay, va, .bool x.back, .int .i64 x.els]
/-- block S is a parser; its tokens lie in blocks < B -/
def Par (S B : Nat) (w : World) (stop : Int) (l : List Tok) (va : Value) (x : WishD) : Prop := ∃ lv, CellsN w S (parC lv stop va x) ∧ IsToks B w lv l
theorem Par.lt {S B : Nat} {w : World} {stop : Int} {l : List Tok} {va : Value} {x : WishD} (h : Par S B w stop l va x) : S < w.heap.size := by obtain ⟨lv, h1, _⟩ := h; exact h1.lt
theorem Par.ext {S B : Nat} {w w' : World} {stop : Int} {l : List Tok} {va : Value} {x : WishD} (h : Par S B w stop l va x) (hb : Below w.heap.size w w') (hB : B ≤ w.heap.size) : Par S B w' stop l va x := by
  obtain ⟨lv, h1, h2⟩ := h
  exact ⟨lv, h1.ext hb, h2.below hb hB⟩
/-- the panic of a wrong token -/
abbrev wrongE (stop : Int) (r : List Tok) : Ending := .panicked [{ v := .iface 63 (.agg #[.int .i64 (placeOf stop r)]), recovered := false }]

/-- the first token's cells -/
theorem IsToks.head {B : Nat} {w : World} {lv : Value} {t : Tok} {r : List Tok} (h : IsToks B w lv (t :: r)) : ∃ b off c, lv = .slice (some ⟨b, off, none⟩) (r.length + 1) c ∧ r.length + 1 ≤ c ∧ c ≤ 9223372036854775807 ∧ b < B ∧ okT t ∧ r.length + 1 ≤ 3518437208800 ∧
    w.cell? ⟨b, off, none⟩ = some (.int .i64 t.kind) ∧ w.cell? ⟨b, off + 1, none⟩ = some (strV t.text) ∧ w.cell? ⟨b, off + 2, none⟩ = some (.int .i64 t.n) ∧ w.cell? ⟨b, off + 3, none⟩ = some (.int .i64 t.pos) := by
  obtain ⟨b, off, cap, ⟨a', rfl, hcap, hmax, ha⟩, h2, h3, h4⟩ := h
  rcases ha with ha | ha
  · subst ha
    obtain ⟨g1, g2, g3, g4⟩ := h4 0 (by simp)
    exact ⟨b, off, cap, rfl, by simpa using hcap, by omega, g1.1, h3 t (List.mem_cons_self ..), by simpa using h2, by simpa [tokAt] using g1.2, by simpa [tokAt] using g2.2, by simpa [tokAt] using g3.2, by simpa [tokAt] using g4.2⟩
  · simp at ha
/-- the slice without its first token -/
theorem IsToks.tail {B : Nat} {w : World} {b off c : Nat} {t : Tok} {r : List Tok} (h : IsToks B w (.slice (some ⟨b, off, none⟩) (r.length + 1) c) (t :: r)) (a : Option Addr) (ha : r.length = 0 ∨ a = some ⟨b, off + 4, none⟩) : IsToks B w (.slice a r.length (c - 1)) r := by
  obtain ⟨b', off', cap', ⟨a', he, h1, h2, h3⟩, h4, h5, h6⟩ := h
  injection he with e1 e2 e3
  subst e1
  subst e3
  simp only [List.length_cons] at h1 h4 h6
  rcases h3 with h3 | h3
  rotate_left
  · simp at h3
  cases h3
  refine ⟨b, off + 4, c - 1, ⟨a, rfl, by omega, by omega, ?_⟩, by omega, fun u hu => h5 u (List.mem_cons_of_mem _ hu), fun j hj => ?_⟩
  · rcases ha with ha | ha
    · exact .inr ha
    · exact .inl ha
  · obtain ⟨g1, g2, g3, g4⟩ := h6 (j + 1) (by omega)
    have e : off + (j + 1) * 4 = off + 4 + j * 4 := by omega
    rw [e] at g1 g2 g3 g4
    exact ⟨g1, g2, g3, g4⟩
theorem IsToks.empty {B : Nat} {w : World} {lv : Value} (h : IsToks B w lv []) : ∃ a c, lv = .slice a 0 c ∧ c ≤ 9223372036854775807 := by
  obtain ⟨b, off, cap, ⟨a', rfl, hcap, hmax, ha⟩, _⟩ := h
  exact ⟨a', cap, rfl, by omega⟩
end Go.Proofs.YtfnmidddgjlipaaGreatDoor
