/-
  Layer 31: a block of several cells that may be written; the lots of PromiseMore.
-/
import Derived.Test.YtndcbnnbgedgcaaP31n
import Derived.Test.YtndcbnnbgedgcaaS31b
set_option linter.unusedVariables false
set_option linter.unusedSimpArgs false
namespace Go.Proofs.Ytndcbnnbgedgcaa
open Go.RowKit

/-- block b holds the cells c and may be written -/
def CellsN (w : World) (b : Nat) (c : Array Value) : Prop := ∃ t, w.heap[b]? = some (.cells c t (0, 0))
theorem CellsN.lt {w : World} {b : Nat} {c : Array Value} (h : CellsN w b c) : b < w.heap.size := by obtain ⟨t, h⟩ := h; exact (Array.getElem?_eq_some_iff.1 h).1
theorem CellsN.new (w : World) (c : Array Value) (t : TypeId) : CellsN (w.alloc (.cells c t)) w.heap.size c := ⟨t, heap_alloc_new w _⟩
theorem CellsN.grown {b : Nat} {w w' : World} {c : Array Value} {row : Option Nat} (h : CellsN w b c) (hg : w.grownBy w' row) (hne : some b ≠ row) : CellsN w' b c := by
  have hl := h.lt
  obtain ⟨t, h⟩ := h
  exact ⟨t, (hg.block b hl hne).trans h⟩
theorem CellsN.below {B b : Nat} {w w' : World} {c : Array Value} (h : CellsN w b c) (hb : Below B w w') (hB : b < B) : CellsN w' b c := by
  obtain ⟨t, h⟩ := h
  exact ⟨t, (hb.block b hB).trans h⟩
theorem CellsN.ext {b : Nat} {w w' : World} {c : Array Value} (h : CellsN w b c) (hb : Below w.heap.size w w') : CellsN w' b c := h.below hb h.lt
theorem CellsN.alloc {b : Nat} {w : World} {c : Array Value} (h : CellsN w b c) (o : Obj) : CellsN (w.alloc o) b c := h.ext (box_below' w o)
theorem CellsN.cell {b : Nat} {w : World} {c : Array Value} (h : CellsN w b c) (i : Nat) : w.cell? ⟨b, i, none⟩ = c[i]? := by
  obtain ⟨t, h⟩ := h
  simp [World.cell?, h]
theorem CellsN.free {b : Nat} {w : World} {c : Array Value} (h : CellsN w b c) (i : Nat) : w.frozen? ⟨b, i, none⟩ = false := by
  obtain ⟨t, h⟩ := h
  simp [World.frozen?, h]
theorem CellsN.box {b : Nat} {w : World} {c : Array Value} (h : CellsN w b c) : Box w b c := ⟨h.lt, fun i => h.cell i⟩
theorem CellsN.set {b : Nat} {w : World} {c : Array Value} (h : CellsN w b c) (i : Nat) (u : Value) : CellsN (w.setCell ⟨b, i, none⟩ u) b (c.setIfInBounds i u) := by
  obtain ⟨t, h⟩ := h
  refine ⟨t, ?_⟩
  simp [World.setCell, Array.getElem?_modify, h]

end Go.Proofs.Ytndcbnnbgedgcaa
