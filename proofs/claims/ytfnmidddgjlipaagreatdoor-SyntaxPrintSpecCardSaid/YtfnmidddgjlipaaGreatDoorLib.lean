/-
  Representation of Go data in memory: lists of numbers, lots, flows; how they are kept while memory grows.
-/
import Derived.WalkKit
import Derived.WalkSpells
import Derived.Lib.Hide
import Derived.Deep.QuietTactic
import Derived.BigQuiet
set_option linter.unusedVariables false
set_option linter.unusedSimpArgs false
namespace Go.Proofs.YtfnmidddgjlipaaGreatDoor
open Go.RowKit

def I64 (n : Int) : Prop := -9223372036854775808 ≤ n ∧ n ≤ 9223372036854775807

/-- a cell in a block below B -/
def CellB (B : Nat) (w : World) (b o : Nat) (v : Value) : Prop := b < B ∧ w.cell? ⟨b, o, none⟩ = some v

theorem CellB.below {B B' : Nat} {w w' : World} {b o : Nat} {v : Value} (h : CellB B w b o v) (hb : Below B' w w') (hB : B ≤ B') : CellB B w' b o v :=
  ⟨h.1, (hb.cell (p := ⟨b, o, none⟩) (Nat.lt_of_lt_of_le h.1 hB)).trans h.2⟩
theorem CellB.mono {B B' : Nat} {w : World} {b o : Nat} {v : Value} (h : CellB B w b o v) (hB : B ≤ B') : CellB B' w b o v :=
  ⟨Nat.lt_of_lt_of_le h.1 hB, h.2⟩

/-- the shape of a slice value of n elements -/
def SliceV (v : Value) (n : Nat) (b off cap : Nat) : Prop :=
  ∃ a, v = .slice a n cap ∧ n ≤ cap ∧ cap ≤ 9223372036854775807 ∧ (a = some ⟨b, off, none⟩ ∨ n = 0)

/-- element k of a list of numbers (not open to the walk) -/
def nth (l : List Int) (k : Nat) : Int := l.getD k 0
def hasB (l : List Int) (n : Int) : Bool := l.contains n

theorem nth_eq_getElem {zs : List Int} {k : Nat} (h : k < zs.length) : nth zs k = zs[k] := by
  unfold nth; rw [List.getD_eq_getElem?_getD, List.getElem?_eq_getElem h]; rfl

/-- v reads as the numbers xs, all cells in blocks below B -/
def IsInts (B : Nat) (w : World) (v : Value) (xs : List Int) : Prop :=
  ∃ b off cap, SliceV v xs.length b off cap ∧ xs.length ≤ 17592186043904 ∧ (∀ x ∈ xs, I64 x) ∧
    ∀ j, j < xs.length → CellB B w b (off + j) (.int .i64 (nth xs j))

structure Lot where
  ins : List Int
  known : Bool
  perm : List Int

instance : Inhabited Lot := ⟨⟨[], false, []⟩⟩

def lotAt (ls : List Lot) (k : Nat) : Lot := ls.getD k default

structure Flow where
  senders : Int
  lots : List Lot

def IsLot (B : Nat) (w : World) (vi vk vp : Value) (d : Lot) : Prop :=
  IsInts B w vi d.ins ∧ vk = .bool d.known ∧ IsInts B w vp d.perm

def IsLots (B : Nat) (w : World) (v : Value) (ls : List Lot) : Prop :=
  ∃ b off cap, SliceV v ls.length b off cap ∧ ls.length ≤ 2513169434900 ∧
    ∀ j, j < ls.length → ∃ vi vk vp, CellB B w b (off + j * 3) vi ∧ CellB B w b (off + j * 3 + 1) vk ∧ CellB B w b (off + j * 3 + 2) vp ∧ IsLot B w vi vk vp (lotAt ls j)

def IsFlow (B : Nat) (w : World) (vs vl : Value) (f : Flow) : Prop :=
  vs = .int .i64 f.senders ∧ I64 f.senders ∧ IsLots B w vl f.lots

theorem IsInts.below {B B' : Nat} {w w' : World} {v : Value} {xs : List Int} (h : IsInts B w v xs) (hb : Below B' w w') (hB : B ≤ B') : IsInts B w' v xs := by
  obtain ⟨b, off, cap, h1, h2, h3, h4⟩ := h
  exact ⟨b, off, cap, h1, h2, h3, fun j hj => (h4 j hj).below hb hB⟩
theorem IsInts.mono {B B' : Nat} {w : World} {v : Value} {xs : List Int} (h : IsInts B w v xs) (hB : B ≤ B') : IsInts B' w v xs := by
  obtain ⟨b, off, cap, h1, h2, h3, h4⟩ := h
  exact ⟨b, off, cap, h1, h2, h3, fun j hj => (h4 j hj).mono hB⟩
theorem IsLot.below {B B' : Nat} {w w' : World} {vi vk vp : Value} {d : Lot} (h : IsLot B w vi vk vp d) (hb : Below B' w w') (hB : B ≤ B') : IsLot B w' vi vk vp d :=
  ⟨h.1.below hb hB, h.2.1, h.2.2.below hb hB⟩
theorem IsLot.mono {B B' : Nat} {w : World} {vi vk vp : Value} {d : Lot} (h : IsLot B w vi vk vp d) (hB : B ≤ B') : IsLot B' w vi vk vp d :=
  ⟨h.1.mono hB, h.2.1, h.2.2.mono hB⟩
theorem IsLots.below {B B' : Nat} {w w' : World} {v : Value} {ls : List Lot} (h : IsLots B w v ls) (hb : Below B' w w') (hB : B ≤ B') : IsLots B w' v ls := by
  obtain ⟨b, off, cap, h1, h2, h4⟩ := h
  refine ⟨b, off, cap, h1, h2, fun j hj => ?_⟩
  obtain ⟨vi, vk, vp, c1, c2, c3, hl⟩ := h4 j hj
  exact ⟨vi, vk, vp, c1.below hb hB, c2.below hb hB, c3.below hb hB, hl.below hb hB⟩
theorem IsLots.mono {B B' : Nat} {w : World} {v : Value} {ls : List Lot} (h : IsLots B w v ls) (hB : B ≤ B') : IsLots B' w v ls := by
  obtain ⟨b, off, cap, h1, h2, h4⟩ := h
  refine ⟨b, off, cap, h1, h2, fun j hj => ?_⟩
  obtain ⟨vi, vk, vp, c1, c2, c3, hl⟩ := h4 j hj
  exact ⟨vi, vk, vp, c1.mono hB, c2.mono hB, c3.mono hB, hl.mono hB⟩
theorem IsFlow.below {B B' : Nat} {w w' : World} {vs vl : Value} {f : Flow} (h : IsFlow B w vs vl f) (hb : Below B' w w') (hB : B ≤ B') : IsFlow B w' vs vl f :=
  ⟨h.1, h.2.1, h.2.2.below hb hB⟩
theorem IsFlow.mono {B B' : Nat} {w : World} {vs vl : Value} {f : Flow} (h : IsFlow B w vs vl f) (hB : B ≤ B') : IsFlow B' w vs vl f :=
  ⟨h.1, h.2.1, h.2.2.mono hB⟩

theorem bcell {W w1 : World} (hb : Below W.heap.size W w1) : (∀ b o, b < W.heap.size → w1.cell? ⟨b, o, none⟩ = W.cell? ⟨b, o, none⟩) ∧ (∀ b o, b < W.heap.size → w1.frozen? ⟨b, o, none⟩ = W.frozen? ⟨b, o, none⟩) :=
  ⟨fun b o h => hb.cell (p := ⟨b, o, none⟩) h, fun b o h => hb.frozen (p := ⟨b, o, none⟩) h⟩
/-- block b holds the cells c -/
def Box (w : World) (b : Nat) (c : Array Value) : Prop := b < w.heap.size ∧ ∀ i, w.cell? ⟨b, i, none⟩ = c[i]?
theorem Box.new (w : World) (c : Array Value) (t : TypeId) : Box (w.alloc (.cells c t)) w.heap.size c :=
  ⟨by simp, fun i => World.cell?_alloc_at _ _ _ _ rfl⟩
theorem Box.below {B b : Nat} {w w' : World} {c : Array Value} (h : Box w b c) (hb : Below B w w') (hB : b < B) : Box w' b c :=
  ⟨Nat.lt_of_lt_of_le h.1 hb.size, fun i => (hb.cell (p := ⟨b, i, none⟩) hB).trans (h.2 i)⟩
theorem Box.ext {b : Nat} {w w' : World} {c : Array Value} (h : Box w b c) (hb : Below w.heap.size w w') : Box w' b c := h.below hb h.1
theorem Box.alloc {b : Nat} {w : World} {c : Array Value} (h : Box w b c) (o : Obj) : Box (w.alloc o) b c := h.ext ((Below.refl _ _).alloc (Nat.le_refl _) o)

theorem box_below' (w : World) (o : Obj) : Below w.heap.size w (w.alloc o) := (Below.refl _ _).alloc (Nat.le_refl _) o

/-! ### what has turned is one block alone -/
theorem grown_refl (w : World) (row : Option Nat) : w.grownBy w row := ⟨rfl, rfl, rfl, Nat.le_refl _, fun _ _ _ => rfl⟩
theorem grown_trans {a b c : World} {row : Option Nat} (h : a.grownBy b row) (k : b.grownBy c row) : a.grownBy c row :=
  ⟨k.os.trans h.os, k.tape.trans h.tape, k.output.trans h.output, Nat.le_trans h.size k.size, fun i hi hne => (k.block i (Nat.lt_of_lt_of_le hi h.size) hne).trans (h.block i hi hne)⟩
theorem grown_below {a b : World} (h : Below a.heap.size a b) (row : Option Nat) : a.grownBy b row := ⟨h.os, h.tape, h.output, h.size, fun k hk _ => h.block k hk⟩
theorem grown_setCell (w : World) (a : Addr) (v : Value) : w.grownBy (w.setCell a v) (some a.block) :=
  ⟨rfl, rfl, rfl, by simp [World.setCell], fun k _ hne => Below.heap_setCell w a v k (fun e => hne (by rw [e]))⟩
theorem Box.grown {b : Nat} {w w' : World} {c : Array Value} {row : Option Nat} (h : Box w b c) (hg : w.grownBy w' row) (hne : some b ≠ row) : Box w' b c :=
  ⟨Nat.lt_of_lt_of_le h.1 hg.size, fun i => (World.cell?_of_block (a := ⟨b, i, none⟩) (hg.block b h.1 hne)).trans (h.2 i)⟩

/-- block b is one cell that may be written, and holds v -/
def Cell1 (w : World) (b : Nat) (v : Value) : Prop := ∃ t, w.heap[b]? = some (.cells #[v] t (0, 0))
theorem Cell1.lt {w : World} {b : Nat} {v : Value} (h : Cell1 w b v) : b < w.heap.size := by obtain ⟨t, h⟩ := h; exact (Array.getElem?_eq_some_iff.1 h).1
theorem Cell1.new (w : World) (v : Value) (t : TypeId) : Cell1 (w.alloc (.cells #[v] t)) w.heap.size v := ⟨t, heap_alloc_new w _⟩
theorem Cell1.grown {b : Nat} {w w' : World} {v : Value} {row : Option Nat} (h : Cell1 w b v) (hg : w.grownBy w' row) (hne : some b ≠ row) : Cell1 w' b v := by
  have hl := h.lt
  obtain ⟨t, h⟩ := h
  exact ⟨t, (hg.block b hl hne).trans h⟩
theorem Cell1.below {B b : Nat} {w w' : World} {v : Value} (h : Cell1 w b v) (hb : Below B w w') (hB : b < B) : Cell1 w' b v := by
  obtain ⟨t, h⟩ := h
  exact ⟨t, (hb.block b hB).trans h⟩
theorem Cell1.ext {b : Nat} {w w' : World} {v : Value} (h : Cell1 w b v) (hb : Below w.heap.size w w') : Cell1 w' b v := h.below hb h.lt
theorem Cell1.alloc {b : Nat} {w : World} {v : Value} (h : Cell1 w b v) (o : Obj) : Cell1 (w.alloc o) b v := h.ext (box_below' w o)
theorem Cell1.cell {b : Nat} {w : World} {v : Value} (h : Cell1 w b v) : w.cell? ⟨b, 0, none⟩ = some v := by
  obtain ⟨t, h⟩ := h
  simp [World.cell?, h]
theorem Cell1.free {b : Nat} {w : World} {v : Value} (h : Cell1 w b v) : w.frozen? ⟨b, 0, none⟩ = false := by
  obtain ⟨t, h⟩ := h
  simp [World.frozen?, h]
theorem Cell1.box {b : Nat} {w : World} {v : Value} (h : Cell1 w b v) : Box w b #[v] := by
  refine ⟨h.lt, fun i => ?_⟩
  obtain ⟨t, h⟩ := h
  simp [World.cell?, h]
theorem Cell1.set {b : Nat} {w : World} {v : Value} (h : Cell1 w b v) (u : Value) : Cell1 (w.setCell ⟨b, 0, none⟩ u) b u := by
  obtain ⟨t, h⟩ := h
  refine ⟨t, ?_⟩
  simp [World.setCell, Array.getElem?_modify, h]

/-- the world has drawn, nothing else -/
def Drew (w w' : World) : Prop := ∃ m, w' = w.drewN m
theorem Drew.refl (w : World) : Drew w w := ⟨0, rfl⟩
theorem Drew.drewN {w w' : World} (h : Drew w w') (n : Nat) : Drew w (w'.drewN n) := by
  obtain ⟨m, rfl⟩ := h; exact ⟨m + n, World.drewN_drewN _ _ _⟩
theorem Drew.trans {a b c : World} (h : Drew a b) (k : Drew b c) : Drew a c := by
  obtain ⟨m, rfl⟩ := k; exact h.drewN m
theorem Drew.cell {w w' : World} (h : Drew w w') (a : Addr) : w'.cell? a = w.cell? a := by
  obtain ⟨m, rfl⟩ := h; exact World.cell?_drewN _ _ _
theorem Drew.below {w w' : World} (h : Drew w w') (B : Nat) : Below B w w' := by
  obtain ⟨m, rfl⟩ := h; exact ⟨rfl, rfl, rfl, Nat.le_refl _, fun _ _ => rfl⟩
theorem IsInts.drew {B : Nat} {w w' : World} {v : Value} {xs : List Int} (h : IsInts B w v xs) (hd : Drew w w') : IsInts B w' v xs :=
  h.below (hd.below B) (Nat.le_refl _)

end Go.Proofs.YtfnmidddgjlipaaGreatDoor
