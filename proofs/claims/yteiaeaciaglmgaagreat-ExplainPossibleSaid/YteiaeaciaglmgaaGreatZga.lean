/- Layers B29a: the walks and the plain laws under the last text, merged and cut to what it uses; nothing is assumed. -/
import Derived.WalkKit
import Derived.WalkSpells
import Derived.Lib.Hide
import Derived.Deep.QuietTactic
import Derived.BigQuiet
import Derived.Test.YteiaeaciaglmgaaGreatRows
import Derived.StillTailTactics
import Derived.MapKept
import Derived.RangeFuncRecord
import Derived.Maps.OwnOps
import Derived.Maps.OwnSet
import Derived.RangeFuncNested
import Derived.RangeFuncBound
import Derived.Shelf.Abstract
import Derived.RangeFuncCalls
import Derived.RangeFuncLeaves
import Derived.OwnWalkIn
import Derived.TacticsInMore
import Derived.LoopNIn
import Derived.LoopIn
import Derived.BigFrameIn
import Derived.Maps.OwnIn
import Derived.Maps.AppendAt
import Derived.Deep.AppendLies
import Derived.Deep.Slices
import Derived.Deep.RegionHeld3
import Derived.Maps.RangeRun
import Derived.Deep.RegionHeldLaw
import Derived.Deep.DrawnRows
import Derived.BigRegionIn
import Derived.Laws.BitsAllLaws
import Derived.Laws.BitsLemmas
import Derived.Deep.RegionHeld
import Derived.Test.YteiaeaciaglmgaaGreatProg
import Derived.Laws.OwnMore
import Derived.Lib.SliceRun
import Derived.OrdersIn
import Derived.Shelf.Spec.TrailingZeros
import Derived.Deep.CutRange
import Derived.Shelf.Small.Bits
import Derived.Shelf.Strconv.Itoa0
import Derived.Shelf.Sort.Plain
import Derived.Shelf.Slices.Reverse
import Derived.Ground.Names2Prog
import Derived.Shelf.Slices.Clone
import Derived.Shelf.Slices.SearchI
import Derived.Shelf.Slices.Cells
import Derived.Shelf.Slices.In.SortNone
import Derived.Ground.SlgnProg
import Derived.Shelf.SlicesE.Clone
import Derived.Ground.SlsfProg
import Derived.Shelf.SlSortCmp.Insertion
import Derived.Shelf.SlSortCmp.SiftDown1
import Derived.Shelf.SlSortCmp.HeapSort1
import Derived.Shelf.SlSortCmp.Insertion1
import Derived.Shelf.SlSortCmp.Median1
import Derived.Shelf.SlSortCmp.Pivot1
import Derived.Shelf.SlSortCmp.ReverseRange1
import Derived.Shelf.SlSortCmp.PartialInsertion1
import Derived.Shelf.SlSortCmp.PartitionEqual1
import Derived.Shelf.SlSortCmp.Partition1
import Derived.Shelf.SlSortCmp.Pdq1
import Derived.Shelf.SlSortCmp.Whole1
import Derived.WideKeyPair
import Derived.DeepKeys5
import Derived.Maps.Keyed
import Derived.Deep.WholeRow
import Derived.Laws.CopyRow
import Derived.Laws.Rows
import Derived.WideKeyEntry
import Derived.ProofKit
import Derived.SizedLaws
import Derived.Deep.Strs
import Derived.OpenShut
set_option linter.unusedVariables false
set_option linter.unusedSimpArgs false
namespace Go.Proofs.YteiaeaciaglmgaaGreat
open Go.RowKit
def I64 (n : Int) : Prop := -9223372036854775808 ≤ n ∧ n ≤ 9223372036854775807
/-- a cell in a block below B -/
def CellB (B : Nat) (w : World) (b o : Nat) (v : Value) : Prop := b < B ∧ w.cell? ⟨b, o, none⟩ = some v
theorem CellB.below {B B' : Nat} {w w' : World} {b o : Nat} {v : Value} (h : CellB B w b o v) (hb : Below B' w w') (hB : B ≤ B') : CellB B w' b o v :=
 ⟨h.1, (hb.cell (p := ⟨b, o, none⟩) (Nat.lt_of_lt_of_le h.1 hB)).trans h.2⟩
theorem CellB.mono {B B' : Nat} {w : World} {b o : Nat} {v : Value} (h : CellB B w b o v) (hB : B ≤ B') : CellB B' w b o v :=
 ⟨Nat.lt_of_lt_of_le h.1 hB, h.2⟩
/-- the shape of a slice value of n elements -/
def SliceV (v : Value) (n : Nat) (b off cap : Nat) : Prop :=
 ∃ a, v = .slice a n cap ∧ n ≤ cap ∧ cap ≤ 9223372036854775807 ∧ (a = some ⟨b, off, none⟩ ∨ n = 0)
/-- element k of a list of numbers (not open to the walk) -/
def nth (l : List Int) (k : Nat) : Int := l.getD k 0
def hasB (l : List Int) (n : Int) : Bool := l.contains n
theorem nth_eq_getElem {zs : List Int} {k : Nat} (h : k < zs.length) : nth zs k = zs[k] := by
 unfold nth; rw [List.getD_eq_getElem?_getD, List.getElem?_eq_getElem h]; rfl
/-- v reads as the numbers xs, all cells in blocks below B -/
def IsInts (B : Nat) (w : World) (v : Value) (xs : List Int) : Prop :=
 ∃ b off cap, SliceV v xs.length b off cap ∧ xs.length ≤ 17592186043904 ∧ (∀ x ∈ xs, I64 x) ∧
  ∀ j, j < xs.length → CellB B w b (off + j) (.int .i64 (nth xs j))
structure Lot where
 ins : List Int
 known : Bool
 perm : List Int
instance : Inhabited Lot := ⟨⟨[], false, []⟩⟩
def lotAt (ls : List Lot) (k : Nat) : Lot := ls.getD k default
structure Flow where
 senders : Int
 lots : List Lot
def IsLot (B : Nat) (w : World) (vi vk vp : Value) (d : Lot) : Prop :=
 IsInts B w vi d.ins ∧ vk = .bool d.known ∧ IsInts B w vp d.perm
def IsLots (B : Nat) (w : World) (v : Value) (ls : List Lot) : Prop :=
 ∃ b off cap, SliceV v ls.length b off cap ∧ ls.length ≤ 2513169434900 ∧
  ∀ j, j < ls.length → ∃ vi vk vp, CellB B w b (off + j * 3) vi ∧ CellB B w b (off + j * 3 + 1) vk ∧ CellB B w b (off + j * 3 + 2) vp ∧ IsLot B w vi vk vp (lotAt ls j)
def IsFlow (B : Nat) (w : World) (vs vl : Value) (f : Flow) : Prop :=
 vs = .int .i64 f.senders ∧ I64 f.senders ∧ IsLots B w vl f.lots
theorem IsInts.below {B B' : Nat} {w w' : World} {v : Value} {xs : List Int} (h : IsInts B w v xs) (hb : Below B' w w') (hB : B ≤ B') : IsInts B w' v xs := by
 obtain ⟨b, off, cap, h1, h2, h3, h4⟩ := h
 exact ⟨b, off, cap, h1, h2, h3, fun j hj => (h4 j hj).below hb hB⟩
theorem IsInts.mono {B B' : Nat} {w : World} {v : Value} {xs : List Int} (h : IsInts B w v xs) (hB : B ≤ B') : IsInts B' w v xs := by
 obtain ⟨b, off, cap, h1, h2, h3, h4⟩ := h
 exact ⟨b, off, cap, h1, h2, h3, fun j hj => (h4 j hj).mono hB⟩
theorem IsLot.below {B B' : Nat} {w w' : World} {vi vk vp : Value} {d : Lot} (h : IsLot B w vi vk vp d) (hb : Below B' w w') (hB : B ≤ B') : IsLot B w' vi vk vp d :=
 ⟨h.1.below hb hB, h.2.1, h.2.2.below hb hB⟩
theorem IsLot.mono {B B' : Nat} {w : World} {vi vk vp : Value} {d : Lot} (h : IsLot B w vi vk vp d) (hB : B ≤ B') : IsLot B' w vi vk vp d :=
 ⟨h.1.mono hB, h.2.1, h.2.2.mono hB⟩
theorem IsLots.below {B B' : Nat} {w w' : World} {v : Value} {ls : List Lot} (h : IsLots B w v ls) (hb : Below B' w w') (hB : B ≤ B') : IsLots B w' v ls := by
 obtain ⟨b, off, cap, h1, h2, h4⟩ := h
 refine ⟨b, off, cap, h1, h2, fun j hj => ?_⟩
 obtain ⟨vi, vk, vp, c1, c2, c3, hl⟩ := h4 j hj
 exact ⟨vi, vk, vp, c1.below hb hB, c2.below hb hB, c3.below hb hB, hl.below hb hB⟩
theorem IsLots.mono {B B' : Nat} {w : World} {v : Value} {ls : List Lot} (h : IsLots B w v ls) (hB : B ≤ B') : IsLots B' w v ls := by
 obtain ⟨b, off, cap, h1, h2, h4⟩ := h
 refine ⟨b, off, cap, h1, h2, fun j hj => ?_⟩
 obtain ⟨vi, vk, vp, c1, c2, c3, hl⟩ := h4 j hj
 exact ⟨vi, vk, vp, c1.mono hB, c2.mono hB, c3.mono hB, hl.mono hB⟩
theorem IsFlow.below {B B' : Nat} {w w' : World} {vs vl : Value} {f : Flow} (h : IsFlow B w vs vl f) (hb : Below B' w w') (hB : B ≤ B') : IsFlow B w' vs vl f :=
 ⟨h.1, h.2.1, h.2.2.below hb hB⟩
theorem IsFlow.mono {B B' : Nat} {w : World} {vs vl : Value} {f : Flow} (h : IsFlow B w vs vl f) (hB : B ≤ B') : IsFlow B' w vs vl f :=
 ⟨h.1, h.2.1, h.2.2.mono hB⟩
theorem bcell {W w1 : World} (hb : Below W.heap.size W w1) : (∀ b o, b < W.heap.size → w1.cell? ⟨b, o, none⟩ = W.cell? ⟨b, o, none⟩) ∧ (∀ b o, b < W.heap.size → w1.frozen? ⟨b, o, none⟩ = W.frozen? ⟨b, o, none⟩) :=
 ⟨fun b o h => hb.cell (p := ⟨b, o, none⟩) h, fun b o h => hb.frozen (p := ⟨b, o, none⟩) h⟩
/-- block b holds the cells c -/
def Box (w : World) (b : Nat) (c : Array Value) : Prop := b < w.heap.size ∧ ∀ i, w.cell? ⟨b, i, none⟩ = c[i]?
theorem Box.new (w : World) (c : Array Value) (t : TypeId) : Box (w.alloc (.cells c t)) w.heap.size c :=
 ⟨by simp, fun i => World.cell?_alloc_at _ _ _ _ rfl⟩
theorem Box.below {B b : Nat} {w w' : World} {c : Array Value} (h : Box w b c) (hb : Below B w w') (hB : b < B) : Box w' b c :=
 ⟨Nat.lt_of_lt_of_le h.1 hb.size, fun i => (hb.cell (p := ⟨b, i, none⟩) hB).trans (h.2 i)⟩
theorem Box.ext {b : Nat} {w w' : World} {c : Array Value} (h : Box w b c) (hb : Below w.heap.size w w') : Box w' b c := h.below hb h.1
theorem Box.alloc {b : Nat} {w : World} {c : Array Value} (h : Box w b c) (o : Obj) : Box (w.alloc o) b c := h.ext ((Below.refl _ _).alloc (Nat.le_refl _) o)
theorem box_below' (w : World) (o : Obj) : Below w.heap.size w (w.alloc o) := (Below.refl _ _).alloc (Nat.le_refl _) o
theorem grown_refl (w : World) (row : Option Nat) : w.grownBy w row := ⟨rfl, rfl, rfl, Nat.le_refl _, fun _ _ _ => rfl⟩
theorem grown_trans {a b c : World} {row : Option Nat} (h : a.grownBy b row) (k : b.grownBy c row) : a.grownBy c row :=
 ⟨k.os.trans h.os, k.tape.trans h.tape, k.output.trans h.output, Nat.le_trans h.size k.size, fun i hi hne => (k.block i (Nat.lt_of_lt_of_le hi h.size) hne).trans (h.block i hi hne)⟩
theorem grown_setCell (w : World) (a : Addr) (v : Value) : w.grownBy (w.setCell a v) (some a.block) :=
 ⟨rfl, rfl, rfl, by simp [World.setCell], fun k _ hne => Below.heap_setCell w a v k (fun e => hne (by rw [e]))⟩
theorem Box.grown {b : Nat} {w w' : World} {c : Array Value} {row : Option Nat} (h : Box w b c) (hg : w.grownBy w' row) (hne : some b ≠ row) : Box w' b c :=
 ⟨Nat.lt_of_lt_of_le h.1 hg.size, fun i => (World.cell?_of_block (a := ⟨b, i, none⟩) (hg.block b h.1 hne)).trans (h.2 i)⟩
/-- block b is one cell that may be written, and holds v -/
def Cell1 (w : World) (b : Nat) (v : Value) : Prop := ∃ t, w.heap[b]? = some (.cells #[v] t (0, 0))
theorem Cell1.lt {w : World} {b : Nat} {v : Value} (h : Cell1 w b v) : b < w.heap.size := by obtain ⟨t, h⟩ := h; exact (Array.getElem?_eq_some_iff.1 h).1
theorem Cell1.new (w : World) (v : Value) (t : TypeId) : Cell1 (w.alloc (.cells #[v] t)) w.heap.size v := ⟨t, heap_alloc_new w _⟩
theorem Cell1.grown {b : Nat} {w w' : World} {v : Value} {row : Option Nat} (h : Cell1 w b v) (hg : w.grownBy w' row) (hne : some b ≠ row) : Cell1 w' b v := by
 have hl := h.lt
 obtain ⟨t, h⟩ := h
 exact ⟨t, (hg.block b hl hne).trans h⟩
theorem Cell1.below {B b : Nat} {w w' : World} {v : Value} (h : Cell1 w b v) (hb : Below B w w') (hB : b < B) : Cell1 w' b v := by
 obtain ⟨t, h⟩ := h
 exact ⟨t, (hb.block b hB).trans h⟩
theorem Cell1.ext {b : Nat} {w w' : World} {v : Value} (h : Cell1 w b v) (hb : Below w.heap.size w w') : Cell1 w' b v := h.below hb h.lt
theorem Cell1.alloc {b : Nat} {w : World} {v : Value} (h : Cell1 w b v) (o : Obj) : Cell1 (w.alloc o) b v := h.ext (box_below' w o)
theorem Cell1.cell {b : Nat} {w : World} {v : Value} (h : Cell1 w b v) : w.cell? ⟨b, 0, none⟩ = some v := by
 obtain ⟨t, h⟩ := h
 simp [World.cell?, h]
theorem Cell1.free {b : Nat} {w : World} {v : Value} (h : Cell1 w b v) : w.frozen? ⟨b, 0, none⟩ = false := by
 obtain ⟨t, h⟩ := h
 simp [World.frozen?, h]
theorem Cell1.box {b : Nat} {w : World} {v : Value} (h : Cell1 w b v) : Box w b #[v] := by
 refine ⟨h.lt, fun i => ?_⟩
 obtain ⟨t, h⟩ := h
 simp [World.cell?, h]
theorem Cell1.set {b : Nat} {w : World} {v : Value} (h : Cell1 w b v) (u : Value) : Cell1 (w.setCell ⟨b, 0, none⟩ u) b u := by
 obtain ⟨t, h⟩ := h
 refine ⟨t, ?_⟩
 simp [World.setCell, Array.getElem?_modify, h]
/-- the world has drawn, nothing else -/
def Drew (w w' : World) : Prop := ∃ m, w' = w.drewN m
theorem Drew.refl (w : World) : Drew w w := ⟨0, rfl⟩
theorem Drew.drewN {w w' : World} (h : Drew w w') (n : Nat) : Drew w (w'.drewN n) := by
 obtain ⟨m, rfl⟩ := h; exact ⟨m + n, World.drewN_drewN _ _ _⟩
theorem Drew.trans {a b c : World} (h : Drew a b) (k : Drew b c) : Drew a c := by
 obtain ⟨m, rfl⟩ := k; exact h.drewN m
theorem Drew.cell {w w' : World} (h : Drew w w') (a : Addr) : w'.cell? a = w.cell? a := by
 obtain ⟨m, rfl⟩ := h; exact World.cell?_drewN _ _ _
theorem Drew.below {w w' : World} (h : Drew w w') (B : Nat) : Below B w w' := by
 obtain ⟨m, rfl⟩ := h; exact ⟨rfl, rfl, rfl, Nat.le_refl _, fun _ _ => rfl⟩
theorem IsInts.drew {B : Nat} {w w' : World} {v : Value} {xs : List Int} (h : IsInts B w v xs) (hd : Drew w w') : IsInts B w' v xs :=
 h.below (hd.below B) (Nat.le_refl _)
end Go.Proofs.YteiaeaciaglmgaaGreat
namespace Go.Proofs.YteiaeaciaglmgaaGreat
theorem nth_lt {zs : List Int} {k : Nat} (h : k < zs.length) : nth zs k = zs[k] := by
 unfold nth; rw [List.getD_eq_getElem?_getD, List.getElem?_eq_getElem h]; rfl
theorem hasB_take_succ {zs : List Int} {k : Nat} {n : Int} (h : k < zs.length) : hasB (zs.take (k + 1)) n = (hasB (zs.take k) n || (nth zs k == n)) := by
 unfold hasB
 rw [List.take_succ_eq_append_getElem h, nth_lt h]
 rw [Bool.eq_iff_iff]
 simp only [List.contains_iff_mem, List.mem_append, List.mem_singleton, Bool.or_eq_true, beq_iff_eq]
 exact or_congr Iff.rfl eq_comm
theorem hasB_of_take {zs : List Int} {k : Nat} {n : Int} (h : hasB (zs.take k) n = true) : hasB zs n = true := by
 unfold hasB at *
 simp at *
 exact List.mem_of_mem_take h
theorem hasB_take_all {zs : List Int} {k : Nat} {n : Int} (h : zs.length ≤ k) : hasB (zs.take k) n = hasB zs n := by rw [List.take_of_length_le h]
/-- are two lists equal? -/
def sameB (a b : List Int) : Bool := decide (a = b)
theorem sameB_len {a b : List Int} (h : a.length ≠ b.length) : sameB a b = false := by
 unfold sameB; simp; intro e; exact h (by rw [e])
theorem sameB_all {a b : List Int} {k : Nat} (h : sameB (a.take k) (b.take k) = true) (h1 : a.length ≤ k) (h2 : b.length ≤ k) : sameB a b = true := by
 rw [List.take_of_length_le h1, List.take_of_length_le h2] at h; exact h
theorem sameB_succ {a b : List Int} {k : Nat} (h : sameB (a.take k) (b.take k) = true) (h1 : k < a.length) (h2 : k < b.length) (e : nth a k = nth b k) : sameB (a.take (k + 1)) (b.take (k + 1)) = true := by
 unfold sameB at *
 rw [nth_lt h1, nth_lt h2] at e
 have h' := of_decide_eq_true h
 rw [List.take_succ_eq_append_getElem h1, List.take_succ_eq_append_getElem h2, h', e]
 simp
theorem sameB_not {a b : List Int} {k : Nat} (h1 : k < a.length) (h2 : k < b.length) (e : nth a k ≠ nth b k) : sameB a b = false := by
 unfold sameB
 rw [decide_eq_false_iff_not]
 intro h; subst h; exact e rfl
/-- are the numbers of a list pairwise different? -/
def diffB (l : List Int) : Bool := decide l.Nodup
theorem diffB_succ {l : List Int} {k : Nat} (h : k < l.length) : diffB (l.take (k + 1)) = (diffB (l.take k) && !hasB (l.take k) (nth l k)) := by
 unfold diffB hasB
 rw [List.take_succ_eq_append_getElem h, nth_lt h, Bool.eq_iff_iff]
 simp only [decide_eq_true_eq, Bool.and_eq_true, Bool.not_eq_true', List.contains_eq_mem, decide_eq_false_iff_not, List.nodup_append, List.mem_singleton, List.nodup_cons, List.not_mem_nil, not_false_eq_true, List.nodup_nil, and_self, true_and]
 constructor
 ·rintro ⟨a, b⟩; exact ⟨a, fun hm => b _ hm _ rfl rfl⟩
 ·rintro ⟨a, b⟩; exact ⟨a, fun x hx y hy e => b (by subst hy; subst e; exact hx)⟩
theorem diffB_take_false {l : List Int} {k : Nat} (h : diffB (l.take k) = false) : diffB l = false := by
 unfold diffB at *
 rw [decide_eq_false_iff_not] at *
 exact fun hn => h (List.Sublist.nodup (List.take_sublist k l) hn)
theorem diffB_take_all {l : List Int} {k : Nat} (h : l.length ≤ k) : diffB (l.take k) = diffB l := by rw [List.take_of_length_le h]
/-- are all numbers of a list from 0 to n - 1? -/
def inB (l : List Int) (n : Int) : Bool := l.all fun x => decide (0 ≤ x) && decide (x < n)
theorem inB_succ {l : List Int} {k : Nat} {n : Int} (h : k < l.length) : inB (l.take (k + 1)) n = (inB (l.take k) n && (decide (0 ≤ nth l k) && decide (nth l k < n))) := by
 unfold inB
 rw [List.take_succ_eq_append_getElem h, nth_lt h, List.all_append]
 simp
theorem inB_take_false {l : List Int} {k : Nat} {n : Int} (h : inB (l.take k) n = false) : inB l n = false := by
 unfold inB at *
 rw [List.all_eq_false] at *
 obtain ⟨x, hx, hp⟩ := h
 exact ⟨x, List.mem_of_mem_take hx, hp⟩
theorem inB_take_all {l : List Int} {k : Nat} {n : Int} (h : l.length ≤ k) : inB (l.take k) n = inB l n := by rw [List.take_of_length_le h]
def permB (l : List Int) (n : Int) : Bool := inB l n && (decide ((l.length : Int) = n) && diffB l)
/-- how many spots there are before a lot -/
def beforeI (f : Flow) : Nat → Int
 | 0 => f.senders
 | k + 1 => beforeI f k + (lotAt f.lots k).ins.length
/-- does a spot go into one of the first k lots? -/
def goneB (f : Flow) (spot : Int) : Nat → Bool
 | 0 => false
 | k + 1 => goneB f spot k || hasB (lotAt f.lots k).ins spot
theorem goneB_of {f : Flow} {s : Int} {k m : Nat} (h : goneB f s k = true) (hk : k ≤ m) : goneB f s m = true := by
 induction hk with
 | refl => exact h
 | step _ ih => simp [goneB, ih]
theorem lotAt_mem {ls : List Lot} {k : Nat} (h : k < ls.length) : lotAt ls k ∈ ls := by
 unfold lotAt
 rw [List.getD_eq_getElem?_getD, List.getElem?_eq_getElem h]
 exact List.getElem_mem h
theorem beforeI_le {f : Flow} (hL : ∀ d ∈ f.lots, d.ins.length ≤ 17592186043904) : ∀ k, k ≤ f.lots.length → f.senders ≤ beforeI f k ∧ beforeI f k ≤ f.senders + k * 17592186043904
 | 0, _ => by simp [beforeI]
 | k + 1, h => by
  have ih := beforeI_le hL k (by omega)
  have := hL _ (lotAt_mem (ls := f.lots) (k := k) (by omega))
  simp only [beforeI]
  omega
/-- is lot k valid? -/
def lotB (f : Flow) (k : Nat) : Bool :=
 let d := lotAt f.lots k
 decide (d.ins ≠ []) && diffB d.ins && d.ins.all (fun x => decide (0 ≤ x) && decide (x < beforeI f k) && !goneB f x k) &&
  (if d.known then permB d.perm d.ins.length else decide (d.perm = []))
/-- the spots that go into the first k lots -/
def goneL (f : Flow) : Nat → List Int
 | 0 => []
 | k + 1 => goneL f k ++ (lotAt f.lots k).ins
theorem hasB_goneL (f : Flow) (x : Int) : ∀ k, hasB (goneL f k) x = goneB f x k
 | 0 => by simp [goneL, goneB, hasB]
 | k + 1 => by
  have := hasB_goneL f x k
  unfold hasB at *
  simp only [goneL, goneB]
  rw [← this]
  unfold hasB
  rw [Bool.eq_iff_iff]
  simp only [List.contains_iff_mem, List.mem_append, Bool.or_eq_true]
/-- are the first k lots valid? -/
def lotsB (f : Flow) : Nat → Bool
 | 0 => true
 | k + 1 => lotsB f k && lotB f k
theorem lotsB_false {f : Flow} {k m : Nat} (h : lotsB f k = false) (hk : k ≤ m) : lotsB f m = false := by
 induction hk with
 | refl => exact h
 | step _ ih => simp [lotsB, ih]
theorem lotsB_lot {f : Flow} {k m : Nat} (h : lotsB f m = true) (hk : k < m) : lotB f k = true := by
 induction m with
 | zero => omega
 | succ m ih =>
  simp only [lotsB, Bool.and_eq_true] at h
  by_cases e : k = m
  ·rw [e]; exact h.2
  ·exact ih h.1 (by omega)
/-- the error code of Check -/
def checkE (f : Flow) : Int :=
 if 64 < f.senders ∨ 2000 < f.lots.length ∨ 50000 < beforeI f f.lots.length then 2
 else if f.senders < 0 then 250
 else if lotsB f f.lots.length then 0 else 250
theorem checkE_ok {f : Flow} (h : checkE f = 0) : 0 ≤ f.senders ∧ f.senders ≤ 64 ∧ f.lots.length ≤ 2000 ∧ beforeI f f.lots.length ≤ 50000 ∧ lotsB f f.lots.length = true := by
 unfold checkE at h
 split at h
 ·simp at h
 ·split at h
  ·simp at h
  ·split at h
   ·refine ⟨by omega, by omega, by omega, by omega, by assumption⟩
   ·simp at h
theorem beforeI_mono {f : Flow} {k m : Nat} (h : k ≤ m) : beforeI f k ≤ beforeI f m := by
 induction h with
 | refl => exact Int.le_refl _
 | step _ ih => simp only [beforeI]; omega
/-- the ends among the first k spots -/
def endsTo (f : Flow) : Nat → List Int
 | 0 => []
 | k + 1 => if goneB f k f.lots.length then endsTo f k else endsTo f k ++ [(k : Int)]
theorem endsTo_len (f : Flow) : ∀ k, (endsTo f k).length ≤ k
 | 0 => by simp [endsTo]
 | k + 1 => by
  have := endsTo_len f k
  simp only [endsTo]
  split
  ·omega
  ·simp; omega
theorem endsTo_mem (f : Flow) (x : Int) : ∀ k : Nat, x ∈ endsTo f k ↔ 0 ≤ x ∧ x < k ∧ goneB f x f.lots.length = false
 | 0 => by simp [endsTo]; omega
 | k + 1 => by
  have ih := endsTo_mem f x k
  simp only [endsTo]
  split
  ·rename_i hg
   rw [ih]
   constructor
   ·rintro ⟨a, b, c⟩; exact ⟨a, by omega, c⟩
   ·rintro ⟨a, b, c⟩
    refine ⟨a, ?_, c⟩
    by_cases e : x = k
    ·subst e; rw [hg] at c; simp at c
    ·omega
  ·rename_i hg
   simp only [List.mem_append, ih, List.mem_singleton]
   constructor
   ·rintro (⟨a, b, c⟩ | rfl)
    ·exact ⟨a, by omega, c⟩
    ·exact ⟨by omega, by omega, by simpa using hg⟩
   ·rintro ⟨a, b, c⟩
    by_cases e : x = k
    ·exact Or.inr e
    ·exact Or.inl ⟨a, by omega, c⟩
def endsL (f : Flow) : List Int := endsTo f (beforeI f f.lots.length).toNat
def endsR (f : Flow) : List Int := if checkE f = 0 then endsL f else []
/-- Few of layer 25 -/
def fewTo (f : Flow) : Nat → Bool
 | 0 => true
 | k + 1 => fewTo f k && (decide ((lotAt f.lots k).ins.length ≤ 70) && decide ((lotAt f.lots k).perm.length ≤ 70))
theorem fewTo_false {f : Flow} {k m : Nat} (h : fewTo f k = false) (hk : k ≤ m) : fewTo f m = false := by
 induction hk with
 | refl => exact h
 | step _ ih => simp [fewTo, ih]
def few25 (f : Flow) : Bool := fewTo f (min f.lots.length 20) && decide (f.lots.length ≤ 20)
end Go.Proofs.YteiaeaciaglmgaaGreat
namespace Go.Proofs.YteiaeaciaglmgaaGreat
open Go.RowKit
/-- frankingref25.Has -/
theorem has_any (B : Nat) (w : World) (v : Value) (zs : List Int) (n : Int) (hv : IsInts B w v zs) :
  Calls Tryz.prog 74 #[v, .int .i64 n] w fun e w' => e = .returned (.bool (hasB zs n)) ∧ w' = w := by
 obtain ⟨b, off, cap, ⟨a, rfl, hcap, hmax, ha⟩, hlen, hz, hc⟩ := hv
 go_enter Tryz.func74, Tryz.ntmps74
 go_wp2
 go_loop [5] (fun i => ∃ k : Nat, k ≤ zs.length ∧ i = .int .i64 k ∧ hasB (zs.take k) n = false) (fun i => zs.length - (intOf i).toNat)
 case atStart => exact ⟨0, by omega, rfl, rfl⟩
 case round =>
  obtain ⟨k, hk, rfl, hno⟩ := hrel
  have HN := Lib.hid hno
  clear hno
  by_cases hlt : k < zs.length
  ·obtain rfl : a = some ⟨b, off, none⟩ := by rcases ha with ha | ha; exact ha; omega
   have hcell := (hc k hlt).2
   have HT := Lib.hid (hasB_take_succ (n := n) hlt)
   clear ha hc
   go_wp2
   ·have he : (nth zs k == n) = true := by assumption
    go_ret
    exact ⟨by rw [hasB_of_take (k := k + 1) (by rw [HT.out, he]; simp)]; rfl, rfl⟩
   ·have he : (nth zs k == n) = false := by assumption
    go_round
    case rel => exact ⟨k + 1, by omega, by go_num, by rw [HT.out, HN.out, he]; rfl⟩
    case measure => simp [intOf]; omega
  ·clear hc
   go_wp2
   go_ret
   exact ⟨by rw [← hasB_take_all (k := k) (by omega), HN.out]; rfl, rfl⟩
/-- frankingref25.SameInts -/
theorem same_any (B : Nat) (w : World) (v v' : Value) (xs ys : List Int) (hv : IsInts B w v xs) (hv' : IsInts B w v' ys) :
  Calls Tryz.prog 36 #[v, v'] w fun e w' => e = .returned (.bool (sameB xs ys)) ∧ Drew w w' := by
 obtain ⟨b, off, cap, ⟨a, rfl, hcap, hmax, ha⟩, hlen, hz, hc⟩ := hv
 obtain ⟨b', off', cap', ⟨a', rfl, hcap', hmax', ha'⟩, hlen', hz', hc'⟩ := hv'
 by_cases hl : xs.length = ys.length
 ·have HL := Lib.hid hl
  have hne2 : ((xs.length : Int) != (ys.length : Int)) = false := by rw [hl]; simp
  clear hl
  go_enter Tryz.func36, Tryz.ntmps36
  go_wp2
  go_loopw [5] (fun i wr => ∃ k : Nat, k ≤ xs.length ∧ i = .int .i64 k ∧ sameB (xs.take k) (ys.take k) = true ∧ Drew w wr) (fun i _ => xs.length - (intOf i).toNat)
  case atStart => exact ⟨0, by omega, rfl, rfl, Drew.refl _⟩
  case round =>
   obtain ⟨k, hk, rfl, hno, hd⟩ := hrel
   have HN := Lib.hid hno
   have HD := Lib.hid hd
   clear hno hd
   by_cases hlt : k < xs.length
   ·have hlt' : k < ys.length := by rw [← HL.out]; exact hlt
    obtain rfl : a = some ⟨b, off, none⟩ := by rcases ha with ha | ha; exact ha; omega
    obtain rfl : a' = some ⟨b', off', none⟩ := by rcases ha' with ha | ha; exact ha; omega
    have hcell := (HD.out.cell _).trans (hc k hlt).2
    have hcell' := (HD.out.cell _).trans (hc' k hlt').2
    clear ha ha' hc hc'
    go_wp2
    go_quiet (fail)
    by_cases he : nth xs k = nth ys k
    ·have HT := Lib.hid (sameB_succ HN.out hlt hlt' he)
     have he' : (nth xs k != nth ys k) = false := by simpa using he
     clear he
     go_wp2
     go_roundw
     case rel => exact ⟨k + 1, by omega, by go_num, HT.out, HD.out.drewN _⟩
     case measure => simp [intOf]; omega
    ·have HT := Lib.hid (sameB_not hlt hlt' he)
     have he' : (nth xs k != nth ys k) = true := by simpa using he
     clear he
     go_wp2
     go_ret
     exact ⟨by rw [HT.out]; rfl, HD.out.drewN _⟩
   ·have HT := Lib.hid (sameB_all HN.out (by omega) (by have := HL.out; omega))
    clear hc hc'
    go_wp2
    go_ret
    exact ⟨by rw [HT.out]; rfl, HD.out⟩
 ·have HT := Lib.hid (sameB_len hl)
  have hne2 : ((xs.length : Int) != (ys.length : Int)) = true := by simp; omega
  clear hl hc hc'
  go_enter Tryz.func36, Tryz.ntmps36
  go_wp2
  go_ret
  exact ⟨by rw [HT.out]; rfl, Drew.refl _⟩
theorem IsInts.take {B : Nat} {w : World} {cap k : Nat} {a : Option Addr} {zs : List Int} (h : IsInts B w (.slice a zs.length cap) zs) (hk : k ≤ zs.length) :
  IsInts B w (.slice a k cap) (zs.take k) := by
 obtain ⟨b, off, cap', ⟨a', he, hcap, hmax, ha⟩, hlen, hz, hc⟩ := h
 obtain ⟨rfl, _, rfl⟩ : a = a' ∧ True ∧ cap = cap' := by cases he; exact ⟨rfl, trivial, rfl⟩
 have hl : (zs.take k).length = k := by simp; omega
 refine ⟨b, off, cap, ⟨a, by rw [hl], by omega, hmax, ?_⟩, by omega, fun x hx => hz x (List.mem_of_mem_take hx), fun j hj => ?_⟩
 ·rcases ha with ha | ha
  ·exact Or.inl ha
  ·exact Or.inr (by omega)
 ·have := hc j (by omega)
  unfold nth at *
  rw [List.getD_eq_getElem?_getD, List.getElem?_take, if_pos (by omega), ← List.getD_eq_getElem?_getD]
  exact this
/-- frankingref25.Different -/
theorem different_any (B : Nat) (w : World) (v : Value) (zs : List Int) (hv : IsInts B w v zs) :
  Calls Tryz.prog 57 #[v] w fun e w' => e = .returned (.bool (diffB zs)) ∧ Drew w w' := by
 have HV := Lib.hid hv
 obtain ⟨b, off, cap, ⟨a, rfl, hcap, hmax, ha⟩, hlen, hz, hc⟩ := hv
 go_enter Tryz.func57, Tryz.ntmps57
 go_wp2
 go_loopw [3] (fun i wr => ∃ k : Nat, k ≤ zs.length ∧ i = .int .i64 k ∧ diffB (zs.take k) = true ∧ Drew w wr) (fun i _ => zs.length - (intOf i).toNat)
 case atStart => exact ⟨0, by omega, rfl, rfl, Drew.refl _⟩
 case round =>
  obtain ⟨k, hk, rfl, hno, hd⟩ := hrel
  have HN := Lib.hid hno
  have HD := Lib.hid hd
  clear hno hd
  by_cases hlt : k < zs.length
  ·obtain rfl : a = some ⟨b, off, none⟩ := by rcases ha with ha | ha; exact ha; omega
   have hcell := (HD.out.cell _).trans (hc k hlt).2
   have HS := Lib.hid (diffB_succ hlt)
   have hcall : ∀ m, Calls Tryz.prog 74 #[.slice (some ⟨b, off, none⟩) k cap, .int .i64 (nth zs k)] (wr.drewN m) fun e w' => e = .returned (.bool (hasB (zs.take k) (nth zs k))) ∧ w' = wr.drewN m :=
    fun m => has_any B _ _ (zs.take k) (nth zs k) ((HV.out.take hk).drew (HD.out.drewN _))
   have HC := Lib.hid hcall
   have hkcap : k ≤ cap := by omega
   clear ha hc hcall
   go_wp2
   go_quiet ((go_at_call 74; exact Calls.quiet_of_same (HC.out _)))
   cases he : hasB (zs.take k) (nth zs k)
   ·have HT : Hid (diffB (zs.take (k + 1)) = true) := by
     refine Lib.hid ?_
     rw [HS.out, HN.out, he]; rfl
    clear HS
    go_wp2
    go_roundw
    case rel => exact ⟨k + 1, by omega, by go_num, HT.out, HD.out.drewN _⟩
    case measure => simp [intOf]; omega
   ·have HT : Hid (diffB zs = false) := by
     refine Lib.hid (diffB_take_false (k := k + 1) ?_)
     rw [HS.out, HN.out, he]; rfl
    clear HS
    go_wp2
    go_ret
    exact ⟨by rw [HT.out]; rfl, HD.out.drewN _⟩
  ·have HT : Hid (diffB zs = true) := by
    refine Lib.hid ?_
    rw [← diffB_take_all (k := k) (by omega)]; exact HN.out
   clear hc
   go_wp2
   go_ret
   exact ⟨by rw [HT.out]; rfl, HD.out⟩
end Go.Proofs.YteiaeaciaglmgaaGreat
namespace Go.Proofs.YteiaeaciaglmgaaGreat
open Go.RowKit
/-- frankingref25.Perm -/
theorem perm_any (B : Nat) (w : World) (v : Value) (zs : List Int) (n : Int) (hv : IsInts B w v zs) :
  Calls Tryz.prog 59 #[v, .int .i64 n] w fun e w' => e = .returned (.bool (permB zs n)) ∧ Drew w w' := by
 have HV := Lib.hid hv
 obtain ⟨b, off, cap, ⟨a, rfl, hcap, hmax, ha⟩, hlen, hz, hc⟩ := hv
 go_enter Tryz.func59, Tryz.ntmps59
 go_wp2
 go_loop [5] (fun i => ∃ k : Nat, k ≤ zs.length ∧ i = .int .i64 k ∧ inB (zs.take k) n = true) (fun i => zs.length - (intOf i).toNat)
 case atStart => exact ⟨0, by omega, rfl, rfl⟩
 case round =>
  obtain ⟨k, hk, rfl, hno⟩ := hrel
  have HN := Lib.hid hno
  clear hno
  by_cases hlt : k < zs.length
  ·obtain rfl : a = some ⟨b, off, none⟩ := by rcases ha with ha | ha; exact ha; omega
   have hcell := (hc k hlt).2
   have HS := Lib.hid (inB_succ (n := n) hlt)
   clear ha hc
   by_cases h1 : nth zs k < 0
   ·have HT : Hid (permB zs n = false) := by
     refine Lib.hid ?_
     unfold permB
     rw [inB_take_false (k := k + 1) (by rw [HS.out, decide_eq_false (by omega : ¬ 0 ≤ nth zs k)]; simp)]; rfl
    go_wp2
    go_ret
    exact ⟨by rw [HT.out]; rfl, Drew.refl _⟩
   ·have h1' : decide (nth zs k < 0) = false := decide_eq_false h1
    by_cases h2 : n ≤ nth zs k
    ·have HT : Hid (permB zs n = false) := by
      refine Lib.hid ?_
      unfold permB
      rw [inB_take_false (k := k + 1) (by rw [HS.out, decide_eq_false (by omega : ¬ nth zs k < n)]; simp)]; rfl
     go_wp2
     go_ret
     exact ⟨by rw [HT.out]; rfl, Drew.refl _⟩
    ·have h2' : decide (n ≤ nth zs k) = false := decide_eq_false h2
     have HT : Hid (inB (zs.take (k + 1)) n = true) := by
      refine Lib.hid ?_
      rw [HS.out, HN.out, decide_eq_true (by omega : 0 ≤ nth zs k), decide_eq_true (by omega : nth zs k < n)]; rfl
     go_wp2
     go_round
     case rel => exact ⟨k + 1, by omega, by go_num, HT.out⟩
     case measure => simp [intOf]; omega
  ·have HT : Hid (inB zs n = true) := Lib.hid (by rw [← inB_take_all (k := k) (by omega)]; exact HN.out)
   have HP : Hid (permB zs n = (decide ((zs.length : Int) = n) && diffB zs)) := Lib.hid (by unfold permB; rw [HT.out]; rfl)
   clear hc
   by_cases hl : (zs.length : Int) = n
   ·have hl' : ((zs.length : Int) == n) = true := by simpa using hl
    have HL := Lib.hid hl
    clear hl
    go_wp2_with (go_at_call 57; refine (different_any _ _ _ _ HV.out).mono ?_; rintro e w' ⟨rfl, hd⟩; have HD := Lib.hid hd; clear hd)
    go_ret
    exact ⟨by rw [HP.out, decide_eq_true HL.out]; rfl, HD.out⟩
   ·have hl' : ((zs.length : Int) == n) = false := by simpa using hl
    have HL := Lib.hid hl
    clear hl
    go_wp2
    go_ret
    exact ⟨by rw [HP.out, decide_eq_false HL.out]; rfl, Drew.refl _⟩
theorem IsLots.lens {B : Nat} {w : World} {v : Value} {ls : List Lot} (h : IsLots B w v ls) : ∀ d ∈ ls, d.ins.length ≤ 17592186043904 ∧ d.perm.length ≤ 17592186043904 := by
 obtain ⟨b, off, cap, _, _, hl⟩ := h
 intro d hd
 obtain ⟨j, hj, rfl⟩ := List.getElem_of_mem hd
 obtain ⟨vi, vk, vp, _, _, _, ⟨_, _, _, _, h1, _⟩, _, ⟨_, _, _, _, h2, _⟩⟩ := hl j hj
 have e : lotAt ls j = ls[j] := by unfold lotAt; rw [List.getD_eq_getElem?_getD, List.getElem?_eq_getElem hj]; rfl
 rw [e] at h1 h2
 exact ⟨h1, h2⟩
/-- frankingref25.Before -/
theorem before_any (B : Nat) (w : World) (vs vl : Value) (f : Flow) (m : Nat) (hf : IsFlow B w vs vl f) (hB : B ≤ w.heap.size) (hm : m ≤ f.lots.length) (hm2 : m ≤ 2000) (hs : f.senders ≤ 64) :
  Calls Tryz.prog 37 #[.agg #[vs, vl], .int .i64 m] w fun e w' => e = .returned (.int .i64 (beforeI f m)) ∧ Below w.heap.size w w' := by
 obtain ⟨rfl, ⟨hs1, _⟩, hl⟩ := hf
 have HLen := Lib.hid (beforeI_le (f := f) fun d hd => (hl.lens d hd).1)
 obtain ⟨b, off, cap, ⟨a, rfl, hcap, hmax, ha⟩, hlen, hc⟩ := hl
 go_enter Tryz.func37, Tryz.ntmps37
 go_wp2
 go_loop [5, 6] (fun n i => ∃ k : Nat, k ≤ m ∧ i = .int .i64 k ∧ n = .int .i64 (beforeI f k)) (fun _ i => m - (intOf i).toNat)
 case atStart => exact ⟨0, by omega, rfl, rfl⟩
 case round =>
  obtain ⟨k, hk, rfl, rfl⟩ := hrel
  by_cases hlt : k < m
  ·obtain rfl : a = some ⟨b, off, none⟩ := by rcases ha with ha | ha; exact ha; omega
   obtain ⟨vi, vk, vp, ⟨hb, c1⟩, _, _, ⟨b1, off1, cap1, ⟨a1, rfl, _⟩, hl1, _⟩, _⟩ := hc k (by omega)
   have hbB : b < w.heap.size := by omega
   obtain ⟨h1, h2⟩ := HLen.out k (by omega)
   have HS : Hid (beforeI f (k + 1) = beforeI f k + (lotAt f.lots k).ins.length) := Lib.hid rfl
   clear ha hc
   go_wp2
   go_round
   case rel => exact ⟨k + 1, by omega, by go_num, by rw [HS.out]⟩
   case measure => simp [intOf]; omega
  ·obtain rfl : k = m := by omega
   clear hc
   go_wp2
   go_ret
   exact ⟨rfl, (Below.refl _ _).alloc (Nat.le_refl _) _⟩
/-- frankingref25.Gone -/
theorem gone_any (B : Nat) (w : World) (vs vl : Value) (f : Flow) (s : Int) (m : Nat) (hf : IsFlow B w vs vl f) (hB : B ≤ w.heap.size) (hm : m ≤ f.lots.length) :
  Calls Tryz.prog 58 #[.agg #[vs, vl], .int .i64 s, .int .i64 m] w fun e w' => e = .returned (.bool (goneB f s m)) ∧ Below w.heap.size w w' := by
 obtain ⟨rfl, ⟨hs1, _⟩, hl⟩ := hf
 obtain ⟨b, off, cap, ⟨a, rfl, hcap, hmax, ha⟩, hlen, hc⟩ := hl
 go_enter Tryz.func58, Tryz.ntmps58
 go_wp2
 go_loop [7] (fun i => ∃ k : Nat, k ≤ m ∧ i = .int .i64 k ∧ goneB f s k = false) (fun i => m - (intOf i).toNat)
 case atStart => exact ⟨0, by omega, rfl, rfl⟩
 case round =>
  obtain ⟨k, hk, rfl, hno⟩ := hrel
  have HN := Lib.hid hno
  clear hno
  by_cases hlt : k < m
  ·obtain rfl : a = some ⟨b, off, none⟩ := by rcases ha with ha | ha; exact ha; omega
   obtain ⟨vi, vk, vp, ⟨hb, c1⟩, _, _, hi, _⟩ := hc k (by omega)
   have hbB : b < w.heap.size := by omega
   have HC := Lib.hid (fun o => has_any B (w.alloc o) vi (lotAt f.lots k).ins s (hi.below ((Below.refl B w).alloc hB o) (Nat.le_refl _)))
   have HS : Hid (goneB f s (k + 1) = (goneB f s k || hasB (lotAt f.lots k).ins s)) := Lib.hid rfl
   clear ha hc hi
   cases he : hasB (lotAt f.lots k).ins s
   ·have HE := Lib.hid he
    clear he
    go_wp2_with (go_at_call 74; refine (HC.out _).mono ?_; rintro e w' ⟨rfl, rfl⟩; rw [HE.out])
    go_round
    case rel => exact ⟨k + 1, by omega, by go_num, by rw [HS.out, HN.out, HE.out]; rfl⟩
    case measure => simp [intOf]; omega
   ·have HE := Lib.hid he
    clear he
    go_wp2_with (go_at_call 74; refine (HC.out _).mono ?_; rintro e w' ⟨rfl, rfl⟩; rw [HE.out])
    go_ret
    exact ⟨by rw [goneB_of (k := k + 1) (m := m) (by rw [HS.out, HE.out]; simp) (by omega)]; rfl, (Below.refl _ _).alloc (Nat.le_refl _) _⟩
  ·obtain rfl : k = m := by omega
   clear hc
   go_wp2
   go_ret
   exact ⟨by rw [HN.out]; rfl, (Below.refl _ _).alloc (Nat.le_refl _) _⟩
end Go.Proofs.YteiaeaciaglmgaaGreat
namespace Go.Proofs.YteiaeaciaglmgaaGreat
open Go.RowKit
/-- the part of lotB that the loop over the ins decides -/
def insOk (f : Flow) (k : Nat) (l : List Int) : Bool := l.all (fun x => decide (0 ≤ x) && decide (x < beforeI f k) && !goneB f x k)
theorem insOk_succ {f : Flow} {k i : Nat} {l : List Int} (h : i < l.length) :
  insOk f k (l.take (i + 1)) = (insOk f k (l.take i) && (decide (0 ≤ nth l i) && decide (nth l i < beforeI f k) && !goneB f (nth l i) k)) := by
 unfold insOk
 rw [List.take_succ_eq_append_getElem h, nth_lt h, List.all_append]
 simp
theorem insOk_take_false {f : Flow} {k i : Nat} {l : List Int} (h : insOk f k (l.take i) = false) : insOk f k l = false := by
 unfold insOk at *
 rw [List.all_eq_false] at *
 obtain ⟨x, hx, hp⟩ := h
 exact ⟨x, List.mem_of_mem_take hx, hp⟩
theorem lotB_eq (f : Flow) (k : Nat) : lotB f k = (decide ((lotAt f.lots k).ins ≠ []) && diffB (lotAt f.lots k).ins && insOk f k (lotAt f.lots k).ins &&
  (if (lotAt f.lots k).known then permB (lotAt f.lots k).perm (lotAt f.lots k).ins.length else decide ((lotAt f.lots k).perm = []))) := rfl
set_option maxRecDepth 100000 in
set_option maxHeartbeats 1000000 in
/-- frankingref25.lot -/
theorem lot_any (B : Nat) (w : World) (vs vl : Value) (f : Flow) (k : Nat) (hf : IsFlow B w vs vl f) (hB : B ≤ w.heap.size) (hk : k < f.lots.length) (hk2 : k ≤ 2000) (hs : f.senders ≤ 64) :
  Calls Tryz.prog 38 #[.agg #[vs, vl], .int .i64 k] w fun e w' => e = .returned (.bool (lotB f k)) ∧ Below w.heap.size w w' := by
 have HF := Lib.hid hf
 have HE := Lib.hid (lotB_eq f k)
 obtain ⟨rfl, ⟨hs1, _⟩, hl⟩ := hf
 have HLen := Lib.hid (beforeI_le (f := f) (fun d hd => (hl.lens d hd).1) k (by omega))
 obtain ⟨b, off, cap, ⟨a, rfl, hcap, hmax, ha⟩, hlen, hc⟩ := hl
 obtain rfl : a = some ⟨b, off, none⟩ := by rcases ha with ha | ha; exact ha; omega
 obtain ⟨vi, vk, vp, ⟨hb, c1⟩, ⟨_, c2⟩, ⟨_, c3⟩, hi, rfl, hp⟩ := hc k hk
 obtain ⟨d, hd⟩ : ∃ d, lotAt f.lots k = d := ⟨_, rfl⟩
 rw [hd] at HE hi hp c2
 have hbB : b < w.heap.size := by omega
 have HI := Lib.hid hi
 have HP := Lib.hid hp
 obtain ⟨b1, off1, cap1, ⟨a1, rfl, hcap1, hmax1, ha1⟩, hlen1, hz1, hc1⟩ := hi
 obtain ⟨b2, off2, cap2, ⟨a2, rfl, hcap2, hmax2, ha2⟩, hlen2, hz2, hc2⟩ := hp
 have HC := Lib.hid hc1
 have HB1 := Lib.hid (fun o o' => before_any B ((w.alloc o).alloc o') _ _ f k (HF.out.below (((Below.refl B w).alloc hB o).alloc (by simp; omega) o') (Nat.le_refl _)) (by simp; omega) (by omega) hk2 hs)
 obtain ⟨n, hn⟩ : ∃ n, beforeI f k = n := ⟨_, rfl⟩
 rw [hn] at HB1
 have HNd := Lib.hid hn
 clear ha hc hd hc1 hc2 ha2 hz1 hz2 hn
 go_enter Tryz.func38, Tryz.ntmps38
 go_wp2_with fail
 refine (HB1.out _ _).mono ?_
 rintro e w3 ⟨rfl, hb3⟩
 have HB3 : Hid (Below w.heap.size w w3) := Lib.hid ((((Below.refl w.heap.size w).alloc (Nat.le_refl _) _).alloc (by simp) _).trans (hb3.mono (by simp; omega)))
 have HQ : Hid (∀ W, Below w3.heap.size w3 W → W.cell? ⟨w.heap.size, 0, none⟩ = some (.int .i64 f.senders) ∧ W.cell? ⟨w.heap.size, 1, none⟩ = some (.slice (some ⟨b, off, none⟩) f.lots.length cap) ∧
   W.cell? ⟨w.heap.size + 1, 0, none⟩ = some (.slice a1 d.ins.length cap1) ∧ W.cell? ⟨w.heap.size + 1, 1, none⟩ = some (.bool d.known) ∧ W.cell? ⟨w.heap.size + 1, 2, none⟩ = some (.slice a2 d.perm.length cap2) ∧
   IsFlow B W (.int .i64 f.senders) (.slice (some ⟨b, off, none⟩) f.lots.length cap) f ∧ IsInts B W (.slice a1 d.ins.length cap1) d.ins ∧ IsInts B W (.slice a2 d.perm.length cap2) d.perm ∧ Below w.heap.size w W ∧ B ≤ W.heap.size) := by
  refine Lib.hid fun W hW => ?_
  have hsz := hb3.size
  simp at hsz
  have hBW : Below w.heap.size w W := HB3.out.trans (hW.mono (by omega))
  have hsz2 := hW.size
  refine ⟨?_, ?_, ?_, ?_, ?_, HF.out.below hBW hB, HI.out.below hBW hB, HP.out.below hBW hB, hBW, by omega⟩
  all_goals
   rw [hW.cell (by simp <;> omega), hb3.cell (by simp <;> omega)]
   simp [go_sem]
 clear hb3 hb hcap hmax c1 c2 c3
 obtain ⟨q1, q2, q3, q4, q5, q6, q7, q8, q9⟩ := HQ.out w3 (Below.refl _ _)
 have HQ7 := Lib.hid q7
 clear q6 q7 q8 q9 q1 q2 q4 q5
 by_cases h0 : d.ins.length = 0
 ·have h0' : ((d.ins.length : Int) == 0) = true := by simpa using h0
  have HT : Hid (lotB f k = false) := by
   refine Lib.hid ?_
   rw [HE.out]
   have : d.ins = [] := List.eq_nil_of_length_eq_zero h0
   simp [this]
  clear h0
  go_wp2
  go_ret
  exact ⟨by rw [HT.out]; rfl, HB3.out⟩
 ·have h0' : ((d.ins.length : Int) == 0) = false := by simp; intro e; exact h0 (by simp [e])
  cases hdf : diffB d.ins
  ·have HT : Hid (lotB f k = false) := Lib.hid (by rw [HE.out, hdf]; simp)
   have HDF := Lib.hid hdf
   clear h0 hdf
   go_wp2_with (go_at_call 57; refine (different_any _ _ _ _ HQ7.out).mono ?_; rintro e w4 ⟨rfl, hd4⟩; have HD4 := Lib.hid hd4; clear hd4; rw [HDF.out])
   go_ret
   exact ⟨by rw [HT.out]; rfl, HB3.out.trans (HD4.out.below _)⟩
  ·have HDF := Lib.hid hdf
   have HX : Hid (lotB f k = (insOk f k d.ins && if d.known then permB d.perm d.ins.length else decide (d.perm = []))) := by
    refine Lib.hid ?_
    have : d.ins ≠ [] := fun e => h0 (by rw [e]; rfl)
    rw [HE.out, hdf, decide_eq_true this]; rfl
   clear hdf h0 HE
   go_wp2_with (go_at_call 57; refine (different_any _ _ _ _ HQ7.out).mono ?_; rintro e w4 ⟨rfl, hd4⟩; have HD4 := Lib.hid hd4; clear hd4; rw [HDF.out])
   go_loopw [7] (fun i wr => ∃ j : Nat, j ≤ d.ins.length ∧ i = .int .i64 j ∧ insOk f k (d.ins.take j) = true ∧ Below w3.heap.size w3 wr) (fun i _ => d.ins.length - (intOf i).toNat)
   case atStart => exact ⟨0, by omega, rfl, rfl, HD4.out.below _⟩
   case round =>
    obtain ⟨j, hj, rfl, hno, hbr⟩ := hrel
    have HN := Lib.hid hno
    have HBR := Lib.hid hbr
    obtain ⟨q1, q2, q3, q4, q5, q6, q7, q8, q9, q10⟩ := HQ.out wr hbr
    have HQ6 := Lib.hid q6
    have HQ7 := Lib.hid q7
    have HQ8 := Lib.hid q8
    have HQ9 := Lib.hid q9
    clear hno hbr q6 q7 q8 q9
    by_cases hlt : j < d.ins.length
    ·obtain rfl : a1 = some ⟨b1, off1, none⟩ := by rcases ha1 with ha | ha; exact ha; omega
     have hcell : wr.cell? ⟨b1, off1 + j, none⟩ = some (.int .i64 (nth d.ins j)) := (HQ9.out.cell (p := ⟨b1, off1 + j, none⟩) (by have := (HC.out j hlt).1; show b1 < _; omega)).trans (HC.out j hlt).2
     have HS := Lib.hid (insOk_succ (f := f) (k := k) hlt)
     rw [HNd.out] at HS
     clear ha1
     by_cases h1 : nth d.ins j < 0
     ·have HT : Hid (lotB f k = false) := by
       refine Lib.hid ?_
       rw [HX.out, insOk_take_false (i := j + 1) (by rw [HS.out, decide_eq_false (by omega : ¬ 0 ≤ nth d.ins j)]; simp)]; rfl
      have h1' : decide (nth d.ins j < 0) = true := decide_eq_true h1
      go_wp2
      go_quiet (fail)
      go_wp2
      go_ret
      exact ⟨by rw [HT.out]; rfl, HQ9.out.trans ((Drew.refl wr).drewN _ |>.below _)⟩
     ·have h1' : decide (nth d.ins j < 0) = false := decide_eq_false h1
      by_cases h2 : n ≤ nth d.ins j
      ·have HT : Hid (lotB f k = false) := by
        refine Lib.hid ?_
        rw [HX.out, insOk_take_false (i := j + 1) (by rw [HS.out, decide_eq_false (by omega : ¬ nth d.ins j < n)]; simp)]; rfl
       have h2' : decide (n ≤ nth d.ins j) = true := decide_eq_true h2
       go_wp2
       go_quiet (fail)
       go_wp2
       go_ret
       exact ⟨by rw [HT.out]; rfl, HQ9.out.trans ((Drew.refl wr).drewN _ |>.below _)⟩
      ·have h2' : decide (n ≤ nth d.ins j) = false := decide_eq_false h2
       have HG : Hid (∀ W, W.heap.size = wr.heap.size → Below wr.heap.size wr W → Calls Tryz.prog 58 #[.agg #[.int .i64 f.senders, .slice (some ⟨b, off, none⟩) f.lots.length cap], .int .i64 (nth d.ins j), .int .i64 k] W fun e w' => e = .returned (.bool (goneB f (nth d.ins j) k)) ∧ Below W.heap.size W w') :=
        Lib.hid fun W hW hb => gone_any B W _ _ f _ k (HQ6.out.below hb q10) (by omega) (by omega)
       go_wp2
       go_still_tail 23, (by kernel_rfl)
       change wpList _ _ _ _ _ wr.drew
       cases hg : goneB f (nth d.ins j) k
       ·have HGG := Lib.hid hg
        have HT : Hid (insOk f k (d.ins.take (j + 1)) = true) := by
         refine Lib.hid ?_
         rw [HS.out, HN.out, decide_eq_true (by omega : 0 ≤ nth d.ins j), decide_eq_true (by omega : nth d.ins j < n), hg]; rfl
        clear hg
        go_wp2_with (go_at_call 58; refine (HG.out wr.drew rfl (Drew.refl wr |>.drewN 1 |>.below _)).mono ?_; rintro e w5 ⟨rfl, hb5⟩; have HB5 := Lib.hid hb5; clear hb5; rw [HGG.out])
        go_roundw
        case rel => exact ⟨j + 1, by omega, by go_num, HT.out, HBR.out.trans ((Drew.refl wr |>.drewN 1 |>.below _).trans (HB5.out.mono HBR.out.size))⟩
        case measure => simp [intOf]; omega
       ·have HGG := Lib.hid hg
        have HT : Hid (lotB f k = false) := by
         refine Lib.hid ?_
         rw [HX.out, insOk_take_false (i := j + 1) (by rw [HS.out, hg]; simp)]; rfl
        clear hg
        go_wp2_with (go_at_call 58; refine (HG.out wr.drew rfl (Drew.refl wr |>.drewN 1 |>.below _)).mono ?_; rintro e w5 ⟨rfl, hb5⟩; have HB5 := Lib.hid hb5; clear hb5; rw [HGG.out])
        go_ret
        exact ⟨by rw [HT.out]; rfl, HQ9.out.trans ((Drew.refl wr |>.drewN 1 |>.below _).trans (HB5.out.mono HQ9.out.size))⟩
    ·have HY : Hid (insOk f k d.ins = true) := Lib.hid (by have := HN.out; rw [List.take_of_length_le (by omega)] at this; exact this)
     cases hkn : d.known
     ·have HKN := Lib.hid hkn
      have hk1 : Value.bool d.known = Value.bool false := by rw [hkn]
      by_cases hp0 : d.perm.length = 0
      ·have HT : Hid (lotB f k = true) := by
        refine Lib.hid ?_
        rw [HX.out, HY.out, hkn, decide_eq_true (List.eq_nil_of_length_eq_zero hp0)]; rfl
       have hp' : ((d.perm.length : Int) == 0) = true := by simpa using hp0
       clear hp0
       go_wp2
       go_ret
       exact ⟨by rw [HT.out]; rfl, HQ9.out⟩
      ·have HT : Hid (lotB f k = false) := by
        refine Lib.hid ?_
        rw [HX.out, HY.out, hkn, decide_eq_false (fun e => hp0 (by rw [e]; rfl))]; rfl
       have hp' : ((d.perm.length : Int) == 0) = false := by simp; intro e; exact hp0 (by simp [e])
       clear hp0
       go_wp2
       go_ret
       exact ⟨by rw [HT.out]; rfl, HQ9.out⟩
     ·have HKN := Lib.hid hkn
      have HT : Hid (lotB f k = permB d.perm d.ins.length) := Lib.hid (by rw [HX.out, HY.out, hkn]; rfl)
      go_wp2_with (go_at_call 59; refine (perm_any _ _ _ _ _ HQ8.out).mono ?_; rintro e w5 ⟨rfl, hb5⟩; have HB5 := Lib.hid hb5; clear hb5)
      go_ret
      exact ⟨by rw [HT.out]; rfl, HQ9.out.trans (HB5.out.below _)⟩
end Go.Proofs.YteiaeaciaglmgaaGreat
namespace Go.Proofs.YteiaeaciaglmgaaGreat
open Go.RowKit
theorem int_info : (Tryz.prog.info? 3).map (fun i => (i.zero, i.size, i.bytes)) = some (some (.int .i64 0), 1, 8) := by kernel_rfl
/-- v reads as xs and its array was made from block B on -/
def OwnInts (B : Nat) (w : World) (v : Value) (xs : List Int) : Prop :=
 w.ownsRow B 3 1 v xs.length (xs.map (Value.int .i64)) ∧ xs.length ≤ 17592186043904 ∧ ∀ x ∈ xs, I64 x
theorem OwnInts.nil (B : Nat) (w : World) : OwnInts B w (.slice none 0 0) [] := ⟨World.ownsRow_nil _ _ _ _, by simp, by simp⟩
theorem OwnInts.made {B : Nat} {w : World} (hB : B ≤ w.heap.size) : OwnInts B (w.alloc (.cells #[] 3)) (.slice (some ⟨w.heap.size, 0, none⟩) 0 0) [] :=
 ⟨World.ownsRow_made w #[] 0 hB (by simp) rfl, by simp, by simp⟩
theorem OwnInts.alloc {B : Nat} {w : World} {v : Value} {xs : List Int} (h : OwnInts B w v xs) (o : Obj) : OwnInts B (w.alloc o) v xs := ⟨h.1.alloc o, h.2⟩
theorem OwnInts.kept {B : Nat} {w w' : World} {v : Value} {xs : List Int} {row : Option Nat} (h : OwnInts B w v xs) (hg : w.grownBy w' row) (hne : v.ownBlock = none ∨ v.ownBlock ≠ row) : OwnInts B w' v xs := ⟨h.1.kept hg hne, h.2⟩
theorem OwnInts.below {B : Nat} {w w' : World} {v : Value} {xs : List Int} (h : OwnInts B w v xs) (hb : Below w.heap.size w w') : OwnInts B w' v xs :=
 h.kept (row := none) ⟨hb.os, hb.tape, hb.output, hb.size, fun k hk _ => hb.block k hk⟩ (by cases hv : v.ownBlock <;> simp)
theorem OwnInts.mono {B B' : Nat} {w : World} {v : Value} {xs : List Int} (h : OwnInts B w v xs) (hB : B' ≤ B) : OwnInts B' w v xs := by
 refine ⟨⟨h.1.1, ?_⟩, h.2⟩
 rcases h.1.2 with hn | ⟨g, cap, cur, hv, hb, rest⟩
 ·exact Or.inl hn
 ·exact Or.inr ⟨g, cap, cur, hv, by omega, rest⟩
theorem OwnInts.isInts {B : Nat} {w : World} {v : Value} {xs : List Int} (h : OwnInts B w v xs) : IsInts w.heap.size w v xs := by
 obtain ⟨⟨_, h1⟩, h2, h3⟩ := h
 rcases h1 with ⟨rfl, hn⟩ | ⟨g, cap, cur, rfl, hb, hg, hnc, hcm, hcs, htk⟩
 ·exact ⟨0, 0, 0, ⟨none, by rw [hn], by omega, by omega, Or.inr hn⟩, h2, h3, fun j hj => by omega⟩
 ·refine ⟨g, 0, cap, ⟨some ⟨g, 0, none⟩, rfl, hnc, by unfold maxLen at hcm; omega, Or.inl rfl⟩, h2, h3, fun j hj => ⟨(Array.getElem?_eq_some_iff.1 hg).1, ?_⟩⟩
  have hlt : j < cur.size := by omega
  simp only [World.cell?, hg, Nat.zero_add]
  have : (cur.toList.take (xs.length * 1))[j]? = (xs.map (Value.int .i64))[j]? := by rw [htk]
  rw [List.getElem?_take, if_pos (by omega)] at this
  simp only [List.getElem?_map, List.getElem?_eq_getElem hj, Option.map_some] at this
  unfold nth
  rw [List.getD_eq_getElem?_getD, List.getElem?_eq_getElem hj]
  simpa using this
theorem OwnInts.form {B : Nat} {w : World} {v : Value} {xs : List Int} (h : OwnInts B w v xs) : ∃ a cap, v = .slice a xs.length cap ∧ (∀ k, v.ownBlock = some k → B ≤ k ∧ k < w.heap.size) := by
 have hl := h.1.lt
 rcases h.1.2 with ⟨rfl, hn⟩ | ⟨g, cap, cur, rfl, rest⟩
 ·exact ⟨none, 0, by rw [hn], hl⟩
 ·exact ⟨_, cap, rfl, hl⟩
theorem OwnInts.form' {B : Nat} {w : World} {v : Value} {xs : List Int} (h : OwnInts B w v xs) : ∃ a n cap, v = .slice a n cap := by
 obtain ⟨a, c, e, _⟩ := h.form
 exact ⟨a, _, c, e⟩
/-- append(s, n) -/
theorem append_int {ops : Array Oper} {rest : List Oper} {o : Oper} {a : Act} {w : World} {Q : Exit → Act → World → Prop} (hgd : o.guard = none) (s x : Operand)
  (ho : o.op = .call { callee := .builtin .append, args := #[s, x], argTypes := #[25, 25] })
  {B : Nat} {v : Value} {xs : List Int} {n : Int} {g c : Nat} (hs : a.eval s = v) (hown : OwnInts B w v xs) (hx : a.eval x = .slice (some ⟨g, 0, none⟩) 1 c)
  (hg : w.cell? ⟨g, 0, none⟩ = some (.int .i64 n)) (hn : I64 n) (hlen : xs.length + 1 ≤ 17592186043904) (hB : B ≤ w.heap.size)
  (h : ∀ v' w', OwnInts B w' v' (xs ++ [n]) → w.grownBy w' v.ownBlock → wpList Tryz.prog ops Q rest (a.put o.dst v') w') : wpList Tryz.prog ops Q (o :: rest) a w := by
 obtain ⟨i0, hi, hz0, hz1, hz2⟩ := info_parts int_info
 refine wpList_append_own w hgd s x 25 ho B 3 i0 (.int .i64 0) 1 8 Tryz.underlying25 hi hz0 hz1 hz2 rfl (by decide) v xs.length (xs.map (Value.int .i64)) hs hown.1 ⟨g, 0, none⟩ 1 c [.int .i64 n] hx rfl ?_ ?_ ?_ ?_ hB ?_
 ·intro j u hj
  match j, hj with
  | 0, hj => simp at hj; subst hj; simpa [Addr.add] using hg
 ·intro u hu; simp at hu; subst hu; rfl
 ·unfold maxLen; omega
 ·omega
 ·intro v' w' h1 h2 _
  refine h v' w' ⟨by simpa using h1, by simpa using hlen, ?_⟩ h2
  intro y hy
  rcases List.mem_append.1 hy with hy | hy
  ·exact hown.2.2 y hy
  ·simp at hy; subst hy; exact hn
theorem OwnInts.one {B k : Nat} {w : World} {n : Int} (hn : I64 n) (hk : k = w.heap.size) (hB : B ≤ w.heap.size) : OwnInts B (w.alloc (.cells #[.int .i64 n] 3)) (.slice (some ⟨k, 0, none⟩) 1 1) [n] := by
 subst hk
 exact ⟨⟨by simp, Or.inr ⟨w.heap.size, 1, #[.int .i64 n], rfl, hB, heap_alloc_new w _, by simp, by unfold maxLen; omega, by simp, by simp⟩⟩, by simp, by simp; exact hn⟩
theorem ints_info : (Tryz.prog.info? 25).map (fun i => (i.zero, i.size, i.bytes)) = some (some (.slice none 0 0), 1, 24) := by kernel_rfl
def rowAt (rows : List (List Int)) (j : Nat) : List Int := rows.getD j []
def valAt (vs : List Value) (j : Nat) : Value := vs.getD j undef
/-- v reads as the lists of numbers rows -/
def IsMat (B : Nat) (w : World) (v : Value) (rows : List (List Int)) : Prop :=
 ∃ b off cap, SliceV v rows.length b off cap ∧ rows.length ≤ 5864062014634 ∧
  ∀ j, j < rows.length → ∃ r, CellB B w b (off + j) r ∧ IsInts B w r (rowAt rows j)
theorem IsMat.below {B B' : Nat} {w w' : World} {v : Value} {xs : List (List Int)} (h : IsMat B w v xs) (hb : Below B' w w') (hB : B ≤ B') : IsMat B w' v xs := by
 obtain ⟨b, off, cap, h1, h2, h4⟩ := h
 refine ⟨b, off, cap, h1, h2, fun j hj => ?_⟩
 obtain ⟨r, c, hr⟩ := h4 j hj
 exact ⟨r, c.below hb hB, hr.below hb hB⟩
theorem IsMat.mono {B B' : Nat} {w : World} {v : Value} {xs : List (List Int)} (h : IsMat B w v xs) (hB : B ≤ B') : IsMat B' w v xs := by
 obtain ⟨b, off, cap, h1, h2, h4⟩ := h
 refine ⟨b, off, cap, h1, h2, fun j hj => ?_⟩
 obtain ⟨r, c, hr⟩ := h4 j hj
 exact ⟨r, c.mono hB, hr.mono hB⟩
/-- v reads as rows, and all its memory was made from block B on -/
def OwnMat (B : Nat) (w : World) (v : Value) (rows : List (List Int)) : Prop :=
 ∃ vals : List Value, w.ownsRow B 25 1 v rows.length vals ∧ rows.length ≤ 5864062014634 ∧ ∀ j, j < rows.length → OwnInts B w (valAt vals j) (rowAt rows j)
theorem OwnMat.nil (B : Nat) (w : World) : OwnMat B w (.slice none 0 0) [] := ⟨[], World.ownsRow_nil _ _ _ _, by simp, by simp⟩
theorem OwnMat.made {B n : Nat} {w : World} (hn : n = w.heap.size) (hB : B ≤ w.heap.size) : OwnMat B (w.alloc (.cells #[] 25)) (.slice (some ⟨n, 0, none⟩) 0 0) [] := by
 subst hn
 exact ⟨[], World.ownsRow_made w #[] 0 hB (by simp) rfl, by simp, by simp⟩
theorem OwnMat.alloc {B : Nat} {w : World} {v : Value} {xs : List (List Int)} (h : OwnMat B w v xs) (o : Obj) : OwnMat B (w.alloc o) v xs := by
 obtain ⟨vals, h1, h2, h3⟩ := h
 exact ⟨vals, h1.alloc o, h2, fun j hj => (h3 j hj).alloc o⟩
theorem OwnMat.below {B : Nat} {w w' : World} {v : Value} {xs : List (List Int)} (h : OwnMat B w v xs) (hb : Below w.heap.size w w') : OwnMat B w' v xs := by
 obtain ⟨vals, h1, h2, h3⟩ := h
 exact ⟨vals, h1.kept (row := none) ⟨hb.os, hb.tape, hb.output, hb.size, fun k hk _ => hb.block k hk⟩ (by cases hv : v.ownBlock <;> simp), h2, fun j hj => (h3 j hj).below hb⟩
theorem OwnMat.mono {B B' : Nat} {w : World} {v : Value} {xs : List (List Int)} (h : OwnMat B w v xs) (hB : B' ≤ B) : OwnMat B' w v xs := by
 obtain ⟨vals, h1, h2, h3⟩ := h
 refine ⟨vals, ⟨h1.1, ?_⟩, h2, fun j hj => (h3 j hj).mono hB⟩
 rcases h1.2 with hn | ⟨g, cap, cur, hv, hb, rest⟩
 ·exact Or.inl hn
 ·exact Or.inr ⟨g, cap, cur, hv, by omega, rest⟩
theorem OwnMat.isMat {B : Nat} {w : World} {v : Value} {xs : List (List Int)} (h : OwnMat B w v xs) : IsMat w.heap.size w v xs := by
 obtain ⟨vals, ⟨hl, h1⟩, h2, h3⟩ := h
 rcases h1 with ⟨rfl, hn⟩ | ⟨g, cap, cur, rfl, hb, hg, hnc, hcm, hcs, htk⟩
 ·exact ⟨0, 0, 0, ⟨none, by rw [hn], by omega, by omega, Or.inr hn⟩, h2, fun j hj => by omega⟩
 ·refine ⟨g, 0, cap, ⟨some ⟨g, 0, none⟩, rfl, hnc, by unfold maxLen at hcm; omega, Or.inl rfl⟩, h2, fun j hj => ⟨valAt vals j, ⟨(Array.getElem?_eq_some_iff.1 hg).1, ?_⟩, (h3 j hj).isInts⟩⟩
  have hlt : j < cur.size := by omega
  simp only [World.cell?, hg, Nat.zero_add]
  have hjv : j < vals.length := by omega
  have : (cur.toList.take (xs.length * 1))[j]? = vals[j]? := by rw [htk]
  rw [List.getElem?_take, if_pos (by omega)] at this
  unfold valAt
  rw [List.getD_eq_getElem?_getD, List.getElem?_eq_getElem hjv]
  rw [List.getElem?_eq_getElem hjv] at this
  simpa using this
/-- the blocks of numbers are not the block of the rows -/
theorem OwnInts.apart {B B' : Nat} {w : World} {r v : Value} {xs : List Int} {n : Nat} {vals : List Value} (h : OwnInts B w r xs) (h' : w.ownsRow B' 25 1 v n vals) : r.ownBlock = none ∨ r.ownBlock ≠ v.ownBlock := by
 rcases h.1.2 with ⟨rfl, _⟩ | ⟨g, cap, cur, rfl, hb, hg, _⟩
 ·exact Or.inl rfl
 ·right
  rcases h'.2 with ⟨rfl, _⟩ | ⟨g', cap', cur', rfl, hb', hg', _⟩
  ·simp [Value.ownBlock]
  ·simp only [Value.ownBlock, ne_eq, Option.some.injEq]
   intro e
   rw [e, hg'] at hg
   simp at hg
end Go.Proofs.YteiaeaciaglmgaaGreat
namespace Go.Proofs.YteiaeaciaglmgaaGreat
open Go.RowKit
/-- a flow that has been put into a block of its own -/
theorem box_below {B : Nat} {w : World} (hB : B ≤ w.heap.size) (o : Obj) : Below B w (w.alloc o) := (Below.refl B w).alloc hB o
set_option maxHeartbeats 1000000 in
/-- frankingref25.Check -/
theorem check25_any (B : Nat) (w : World) (vs vl : Value) (f : Flow) (hf : IsFlow B w vs vl f) (hB : B ≤ w.heap.size) :
  Calls Tryz.prog 17 #[.agg #[vs, vl]] w fun e w' => e = .returned (.int .i64 (checkE f)) ∧ Below w.heap.size w w' := by
 have HF := Lib.hid hf
 obtain ⟨rfl, ⟨hs1, hs2⟩, hl⟩ := hf
 have HLens := Lib.hid hl.lens
 obtain ⟨b, off, cap, ⟨a, rfl, hcap, hmax, ha⟩, hlen, hc⟩ := hl
 clear hc ha
 by_cases h1 : 64 < f.senders
 ·have HT : Hid (checkE f = 2) := Lib.hid (by unfold checkE; rw [if_pos (Or.inl h1)])
  go_enter Tryz.func17, Tryz.ntmps17
  go_wp2
  go_ret
  exact ⟨by rw [HT.out]; rfl, box_below (Nat.le_refl _) _⟩
 ·by_cases h2 : 2000 < f.lots.length
  ·have HT : Hid (checkE f = 2) := Lib.hid (by unfold checkE; rw [if_pos (Or.inr (Or.inl h2))])
   have h2' : decide (2000 < (f.lots.length : Int)) = true := decide_eq_true (by omega)
   have h1' : decide (64 < f.senders) = false := decide_eq_false h1
   go_enter Tryz.func17, Tryz.ntmps17
   go_wp2
   go_ret
   exact ⟨by rw [HT.out]; rfl, box_below (Nat.le_refl _) _⟩
  ·have h2' : decide (2000 < (f.lots.length : Int)) = false := decide_eq_false (by omega)
   have h1' : decide (64 < f.senders) = false := decide_eq_false h1
   obtain ⟨n, hn⟩ : ∃ n, beforeI f f.lots.length = n := ⟨_, rfl⟩
   have HB1 := Lib.hid (fun o => before_any B (w.alloc o) _ _ f f.lots.length (HF.out.below (box_below hB o) (Nat.le_refl _)) (by simp; omega) (Nat.le_refl _) (by omega) (by omega))
   rw [hn] at HB1
   by_cases h3 : 50000 < n
   ·have HT : Hid (checkE f = 2) := Lib.hid (by unfold checkE; rw [hn, if_pos (Or.inr (Or.inr h3))])
    have h3' : decide (50000 < n) = true := decide_eq_true h3
    clear hn
    go_enter Tryz.func17, Tryz.ntmps17
    go_wp2_with (go_at_call 37; refine (HB1.out _).mono ?_; rintro e w5 ⟨rfl, hb5⟩; have HB5 := Lib.hid hb5; clear hb5)
    go_ret
    exact ⟨by rw [HT.out]; rfl, (box_below (Nat.le_refl _) _).trans (HB5.out.mono (by simp))⟩
   ·have h3' : decide (50000 < n) = false := decide_eq_false h3
    by_cases h4 : f.senders < 0
    ·have HT : Hid (checkE f = 250) := Lib.hid (by unfold checkE; rw [hn, if_neg (by omega), if_pos h4])
     clear hn
     go_enter Tryz.func17, Tryz.ntmps17
     go_wp2_with (go_at_call 37; refine (HB1.out _).mono ?_; rintro e w5 ⟨rfl, hb5⟩; have HB5 := Lib.hid hb5; obtain ⟨hc5, _⟩ := bcell hb5; clear hb5)
     go_ret
     exact ⟨by rw [HT.out]; rfl, (box_below (Nat.le_refl _) _).trans (HB5.out.mono (by simp))⟩
    ·have HT : Hid (checkE f = if lotsB f f.lots.length then 0 else 250) := Lib.hid (by unfold checkE; rw [hn, if_neg (by omega), if_neg h4])
     clear hn
     go_enter Tryz.func17, Tryz.ntmps17
     go_wp2_with (go_at_call 37; refine (HB1.out _).mono ?_; rintro e w5 ⟨rfl, hb5⟩; have HB5 := Lib.hid hb5; obtain ⟨hc5, _⟩ := bcell hb5; clear hb5)
     have HZ := Lib.hid HB5.out.size
     have HW : Hid (Below w.heap.size w w5) := Lib.hid ((box_below (Nat.le_refl _) _).trans (HB5.out.mono (by simp)))
     have HQ : Hid (∀ W, Below w5.heap.size w5 W → W.cell? ⟨w.heap.size, 0, none⟩ = some (.int .i64 f.senders) ∧ W.cell? ⟨w.heap.size, 1, none⟩ = some (.slice a f.lots.length cap) ∧
       IsFlow B W (.int .i64 f.senders) (.slice a f.lots.length cap) f ∧ B ≤ W.heap.size) := by
      refine Lib.hid fun W hW => ?_
      have hsz := HB5.out.size
      simp at hsz
      have hsz2 := hW.size
      refine ⟨?_, ?_, HF.out.below (HW.out.trans (hW.mono (by omega))) hB, by omega⟩
      all_goals
       rw [hW.cell (by simp <;> omega), HB5.out.cell (by simp <;> omega)]
       simp [go_sem]
     clear hc5
     go_loopw [3] (fun i wr => ∃ k : Nat, k ≤ f.lots.length ∧ i = .int .i64 k ∧ lotsB f k = true ∧ Below w5.heap.size w5 wr) (fun i _ => f.lots.length - (intOf i).toNat)
     case atStart => exact ⟨0, by omega, rfl, rfl, Below.refl _ _⟩
     case round =>
      obtain ⟨k, hk, rfl, hno, hbr⟩ := hrel
      have HN := Lib.hid hno
      have HBR := Lib.hid hbr
      obtain ⟨q1, q2, q3, q4⟩ := HQ.out wr hbr
      have HQ3 := Lib.hid q3
      clear hno hbr q3
      by_cases hlt : k < f.lots.length
      ·cases hlo : lotB f k
       ·have HLO := Lib.hid hlo
        clear hlo
        go_wp2_with (go_at_call 38; refine (lot_any B _ _ _ f k HQ3.out q4 hlt (by omega) (by omega)).mono ?_; rintro e w6 ⟨rfl, hb6⟩; have HB6 := Lib.hid hb6; clear hb6; rw [HLO.out])
        go_ret
        exact ⟨by rw [HT.out, lotsB_false (k := k + 1) (m := f.lots.length) (by simp [lotsB, HLO.out]) (by omega)]; rfl, HW.out.trans ((HBR.out.trans (HB6.out.mono HBR.out.size)).mono HW.out.size)⟩
       ·have HLO := Lib.hid hlo
        clear hlo
        go_wp2_with (go_at_call 38; refine (lot_any B _ _ _ f k HQ3.out q4 hlt (by omega) (by omega)).mono ?_; rintro e w6 ⟨rfl, hb6⟩; have HB6 := Lib.hid hb6; clear hb6; rw [HLO.out])
        go_roundw
        case rel => exact ⟨k + 1, by omega, by go_num, by simp [lotsB, HLO.out, HN.out], HBR.out.trans (HB6.out.mono HBR.out.size)⟩
        case measure => simp [intOf]; omega
      ·obtain rfl : k = f.lots.length := by omega
       go_wp2
       go_ret
       exact ⟨by rw [HT.out, HN.out]; rfl, HW.out.trans (HBR.out.mono HW.out.size)⟩
end Go.Proofs.YteiaeaciaglmgaaGreat
namespace Go.Proofs.YteiaeaciaglmgaaGreat
open Go.RowKit
/-- frankingref25.Few -/
theorem few25_any (B : Nat) (w : World) (vs vl : Value) (f : Flow) (hf : IsFlow B w vs vl f) (hB : B ≤ w.heap.size) :
  Calls Tryz.prog 15 #[.agg #[vs, vl]] w fun e w' => e = .returned (.bool (few25 f)) ∧ Below w.heap.size w w' := by
 obtain ⟨rfl, ⟨hs1, hs2⟩, hl⟩ := hf
 obtain ⟨b, off, cap, ⟨a, rfl, hcap, hmax, ha⟩, hlen, hc⟩ := hl
 go_enter Tryz.func15, Tryz.ntmps15
 go_wp2
 go_loop [3] (fun i => ∃ k : Nat, k ≤ f.lots.length ∧ k ≤ 20 ∧ i = .int .i64 k ∧ fewTo f k = true) (fun i => f.lots.length - (intOf i).toNat)
 case atStart => exact ⟨0, by omega, by omega, rfl, rfl⟩
 case round =>
  obtain ⟨k, hk, hk2, rfl, hno⟩ := hrel
  have HN := Lib.hid hno
  clear hno
  by_cases hlt : k < f.lots.length
  ·have hlt' : decide ((k : Int) < f.lots.length) = true := decide_eq_true (by omega)
   by_cases h20 : k < 20
   ·have h20' : decide ((k : Int) < 20) = true := decide_eq_true (by omega)
    obtain rfl : a = some ⟨b, off, none⟩ := by rcases ha with ha | ha; exact ha; omega
    obtain ⟨vi, vk, vp, ⟨hb, c1⟩, _, ⟨_, c3⟩, ⟨b1, off1, cap1, ⟨a1, rfl, _⟩, hl1, _⟩, _, ⟨b2, off2, cap2, ⟨a2, rfl, _⟩, hl2, _⟩⟩ := hc k (by omega)
    have hbB : b < w.heap.size := by omega
    have HS : Hid (fewTo f (k + 1) = (fewTo f k && (decide ((lotAt f.lots k).ins.length ≤ 70) && decide ((lotAt f.lots k).perm.length ≤ 70)))) := Lib.hid rfl
    obtain ⟨n1, hn1⟩ : ∃ n, (lotAt f.lots k).ins.length = n := ⟨_, rfl⟩
    obtain ⟨n2, hn2⟩ : ∃ n, (lotAt f.lots k).perm.length = n := ⟨_, rfl⟩
    rw [hn1] at c1 HS
    rw [hn2] at c3 HS
    clear ha hc hn1 hn2 hl1 hl2
    have HM : ∀ m, k + 1 ≤ m → fewTo f (k + 1) = false → few25 f = false ∨ min f.lots.length 20 < m := by
     intro m hm hh
     by_cases hmin : min f.lots.length 20 < m
     ·exact Or.inr hmin
     ·left; unfold few25; rw [fewTo_false hh (by omega)]; rfl
    have HF0 : Hid (fewTo f (k + 1) = false → few25 f = false) := Lib.hid fun hh => by
     unfold few25; rw [fewTo_false hh (by omega)]; rfl
    clear HM
    by_cases h1 : 70 < n1
    ·have h1' : decide (70 < (n1 : Int)) = true := decide_eq_true (by omega)
     have HT : Hid (few25 f = false) := Lib.hid (HF0.out (by rw [HS.out, decide_eq_false (by omega : ¬ n1 ≤ 70)]; simp))
     go_wp2
     go_ret
     exact ⟨by rw [HT.out]; rfl, box_below (Nat.le_refl _) _⟩
    ·have h1' : decide (70 < (n1 : Int)) = false := decide_eq_false (by omega)
     by_cases h2 : 70 < n2
     ·have h2' : decide (70 < (n2 : Int)) = true := decide_eq_true (by omega)
      have HT : Hid (few25 f = false) := Lib.hid (HF0.out (by rw [HS.out, decide_eq_false (by omega : ¬ n2 ≤ 70)]; simp))
      go_wp2
      go_ret
      exact ⟨by rw [HT.out]; rfl, box_below (Nat.le_refl _) _⟩
     ·have h2' : decide (70 < (n2 : Int)) = false := decide_eq_false (by omega)
      have HT : Hid (fewTo f (k + 1) = true) := Lib.hid (by rw [HS.out, HN.out, decide_eq_true (by omega : n1 ≤ 70), decide_eq_true (by omega : n2 ≤ 70)]; rfl)
      go_wp2
      go_round
      case rel => exact ⟨k + 1, by omega, by omega, by go_num, HT.out⟩
      case measure => simp [intOf]; omega
   ·have h20' : decide ((k : Int) < 20) = false := decide_eq_false (by omega)
    clear hc
    by_cases h3 : f.lots.length ≤ 20
    ·omega
    ·have h3' : decide ((f.lots.length : Int) ≤ 20) = false := decide_eq_false (by omega)
     have HT : Hid (few25 f = false) := Lib.hid (by unfold few25; rw [decide_eq_false h3]; simp)
     go_wp2
     go_ret
     exact ⟨by rw [HT.out]; rfl, box_below (Nat.le_refl _) _⟩
  ·have hlt' : decide ((k : Int) < f.lots.length) = false := decide_eq_false (by omega)
   obtain rfl : k = f.lots.length := by omega
   have h3' : decide ((f.lots.length : Int) ≤ 20) = true := decide_eq_true (by omega)
   have HT : Hid (few25 f = true) := Lib.hid (by unfold few25; rw [decide_eq_true hk2, Nat.min_eq_left hk2, HN.out]; rfl)
   clear hc
   go_wp2
   go_ret
   exact ⟨by rw [HT.out]; rfl, box_below (Nat.le_refl _) _⟩
end Go.Proofs.YteiaeaciaglmgaaGreat
namespace Go.Proofs.YteiaeaciaglmgaaGreat
open Go.RowKit
theorem ok_ins {f : Flow} (h : checkE f = 0) {k : Nat} (hk : k < f.lots.length) : (lotAt f.lots k).ins.length ≤ 50000 ∧ 0 ≤ beforeI f k ∧ beforeI f k ≤ 50000 := by
 obtain ⟨h1, h2, h3, h4, h5⟩ := checkE_ok h
 have a := beforeI_mono (f := f) (Nat.zero_le k)
 have b := beforeI_mono (f := f) (k := k + 1) (m := f.lots.length) (by omega)
 simp only [beforeI] at a b
 omega
end Go.Proofs.YteiaeaciaglmgaaGreat
namespace Go.Proofs.YteiaeaciaglmgaaGreat
open Go.RowKit
theorem endsL_len {f : Flow} (h : checkE f = 0) : (endsL f).length ≤ 50000 := by
 have := endsTo_len f (beforeI f f.lots.length).toNat
 have := checkE_ok h
 unfold endsL
 omega
end Go.Proofs.YteiaeaciaglmgaaGreat
namespace Go.Proofs.YteiaeaciaglmgaaGreat
open Go.RowKit Go.MapKept
abbrev AL := List (Int × Value)
def alook : AL → Int → Option Value
 | [], _ => none
 | (k, v) :: r, x => if k = x then some v else alook r x
def aset : AL → Int → Value → AL
 | [], x, v => [(x, v)]
 | (k, u) :: r, x, v => if k = x then (k, v) :: r else (k, u) :: aset r x v
def adel : AL → Int → AL
 | [], _ => []
 | (k, u) :: r, x => if k = x then r else (k, u) :: adel r x
theorem alook_aset (l : AL) (x y : Int) (v : Value) : alook (aset l x v) y = if y = x then some v else alook l y := by
 induction l with
 | nil => simp only [aset, alook]; by_cases h : x = y <;> simp [h, eq_comm]
 | cons p r ih =>
  obtain ⟨k, u⟩ := p
  simp only [aset]
  by_cases hk : k = x
  ·subst hk
   simp only [if_true, alook]
   by_cases hy : k = y
   ·subst hy; simp
   ·rw [if_neg hy, if_neg hy, if_neg (fun e => hy e.symm)]
  ·rw [if_neg hk]
   simp only [alook, ih]
   by_cases hy : k = y
   ·subst hy; rw [if_pos rfl, if_pos rfl, if_neg hk]
   ·rw [if_neg hy, if_neg hy]
theorem mem_aset_key {l : AL} {x y : Int} {v : Value} : y ∈ (aset l x v).map (·.1) ↔ y = x ∨ y ∈ l.map (·.1) := by
 induction l with
 | nil => simp [aset]
 | cons p r ih =>
  obtain ⟨k, u⟩ := p
  simp only [aset]
  by_cases hk : k = x
  ·subst hk; simp
  ·rw [if_neg hk]
   simp only [List.map_cons, List.mem_cons, ih]
   constructor
   ·rintro (h | h | h)
    ·exact Or.inr (Or.inl h)
    ·exact Or.inl h
    ·exact Or.inr (Or.inr h)
   ·rintro (h | h | h)
    ·exact Or.inr (Or.inl h)
    ·exact Or.inl h
    ·exact Or.inr (Or.inr h)
theorem nodup_aset {l : AL} (h : (l.map (·.1)).Nodup) (x : Int) (v : Value) : ((aset l x v).map (·.1)).Nodup := by
 induction l with
 | nil => simp [aset]
 | cons p r ih =>
  obtain ⟨k, u⟩ := p
  simp only [List.map_cons, List.nodup_cons] at h
  simp only [aset]
  by_cases hk : k = x
  ·rw [if_pos hk]; simpa using h
  ·rw [if_neg hk]
   simp only [List.map_cons, List.nodup_cons]
   refine ⟨fun hm => ?_, ih h.2⟩
   rcases mem_aset_key.1 hm with e | e
   ·exact hk e
   ·exact h.1 e
/-- block r is a map that holds the pairs l -/
def IntMap (w : World) (r : Nat) (l : AL) : Prop :=
 ∃ es c, w.heap[r]? = some (.map es c) ∧ Stamped es c ∧ es.toList.map (fun e => (e.key, e.val)) = l.map (fun p => (Value.int .i64 p.1, p.2))
theorem IntMap.lt {w : World} {r : Nat} {l : AL} (h : IntMap w r l) : r < w.heap.size := by
 obtain ⟨es, c, h1, _⟩ := h
 exact (Array.getElem?_eq_some_iff.1 h1).1
theorem IntMap.below {B r : Nat} {w w' : World} {l : AL} (h : IntMap w r l) (hb : Below B w w') (hr : r < B) : IntMap w' r l := by
 obtain ⟨es, c, h1, h2⟩ := h
 exact ⟨es, c, (hb.block r hr).trans h1, h2⟩
theorem IntMap.ext {r : Nat} {w w' : World} {l : AL} (h : IntMap w r l) (hb : Below w.heap.size w w') : IntMap w' r l := h.below hb h.lt
theorem IntMap.alloc {r : Nat} {w : World} {l : AL} (h : IntMap w r l) (o : Obj) : IntMap (w.alloc o) r l := h.ext ((Below.refl _ _).alloc (Nat.le_refl _) o)
theorem IntMap.setCell {r : Nat} {w : World} {l : AL} (h : IntMap w r l) (a : Addr) (v : Value) (hne : r ≠ a.block) : IntMap (w.setCell a v) r l := by
 obtain ⟨es, c, h1, h2⟩ := h
 exact ⟨es, c, (Below.heap_setCell w a v r hne).trans h1, h2⟩
theorem IntMap.made (w : World) : IntMap (w.alloc (.map #[] 0)) w.heap.size [] :=
 ⟨#[], 0, heap_alloc_new w _, stamped_empty 0, rfl⟩
theorem findNow_ints : ∀ (es : List MapEntry) (l : AL) (i : Nat) (x : Int), es.map (fun e => (e.key, e.val)) = l.map (fun p => (Value.int .i64 p.1, p.2)) →
  (alook l x = none ∧ Instr.findNow (.int .i64) (.int .i64 x) es i = some none ∧ (∀ e ∈ es, e.key ≠ .int .i64 x)) ∨
  ∃ j v, alook l x = some v ∧ Instr.findNow (.int .i64) (.int .i64 x) es i = some (some (i + j, v)) ∧ (∃ e, es[j]? = some e ∧ e.key = .int .i64 x) ∧
   ∀ u, (es.modify j fun e => { e with key := .int .i64 x, val := u }).map (fun e => (e.key, e.val)) = (aset l x u).map (fun p => (Value.int .i64 p.1, p.2))
 | [], [], i, x, _ => Or.inl ⟨rfl, rfl, by simp⟩
 | [], p :: l, i, x, h => by simp at h
 | e :: es, [], i, x, h => by simp at h
 | e :: es, (k, v) :: l, i, x, h => by
  simp only [List.map_cons, List.cons.injEq, Prod.mk.injEq] at h
  obtain ⟨⟨hk, hv⟩, ht⟩ := h
  by_cases hx : k = x
  ·subst hx
   refine Or.inr ⟨0, v, by simp [alook], ?_, ⟨e, rfl, hk⟩, fun u => ?_⟩
   ·simp [Instr.findNow, Instr.sameNow, hk, hv]
   ·simp [aset, List.modify, ht]
  ·have hsame : Instr.sameNow (.int .i64) (.int .i64 x) e.key = some false := by
    rw [hk]; simp [Instr.sameNow]; intro h'; exact hx h'.symm
   rcases findNow_ints es l (i + 1) x ht with ⟨h1, h2, h3⟩ | ⟨j, u, h1, h2, h3, h4⟩
   ·refine Or.inl ⟨by simp [alook, hx, h1], by simp [Instr.findNow, hsame, h2], ?_⟩
    intro e' he'
    rcases List.mem_cons.1 he' with rfl | he'
    ·rw [hk]; simpa using hx
    ·exact h3 e' he'
   ·refine Or.inr ⟨j + 1, u, by simp [alook, hx, h1], by simp [Instr.findNow, hsame, h2]; omega, by simpa using h3, fun u' => ?_⟩
    have := h4 u'
    simp only [List.modify_succ_cons, List.map_cons, hk, hv, this, aset, if_neg hx]
section
variable {P : Program} {w : World} {T K E : TypeId} {r : Nat} {l : AL}
/-- m[x], v, ok := m[x] -/
theorem run_lookup_ints (hT : P.underlying T = some (.map K E)) (hK : P.underlying K = some (.int .i64)) {z : Value} (hz : (zeroValue E).run P w = .ok z w) (h : IntMap w r l) (x : Int) (ok : Bool) :
  (Instr.lookup T (.map (some r)) (.int .i64 x) ok).run P w = .ok (if ok then .tuple #[(alook l x).getD z, .bool (alook l x).isSome] else (alook l x).getD z) w := by
 obtain ⟨es, c, h1, h2, h3⟩ := h
 have hk : IsKey (.int .i64) (.int .i64 x) := rfl
 have hck : (Instr.checkKey es.isEmpty 10000 K (.int .i64 x)).run P w = .ok () w := run_checkKey hK hk es.isEmpty 9999
 have hg : (getObj r).run P w = .ok (.map es c) w := MapKept.run_getObj_map h1
 unfold Instr.lookup
 rcases findNow_ints es.toList l 0 x h3 with ⟨q1, q2, _⟩ | ⟨j, v, q1, q2, _⟩
 ·have hf := run_findKey (P := P) (w := w) hK q2
  simp [run_underlying hT, Result.andThen, hg, hck, hf, hz, q1]
 ·have hf := run_findKey (P := P) (w := w) hK q2
  simp [run_underlying hT, Result.andThen, hg, hck, hf, q1]
/-- m[x] = v -/
theorem run_update_ints (hT : P.underlying T = some (.map K E)) (hK : P.underlying K = some (.int .i64)) (h : IntMap w r l) (x : Int) (v : Value) :
  ∃ w', (Instr.mapUpdate T (.map (some r)) (.int .i64 x) v).run P w = .ok () w' ∧ IntMap w' r (aset l x v) ∧ w.grownBy w' (some r) ∧ w'.heap.size = w.heap.size := by
 obtain ⟨es, c, h1, h2, h3⟩ := h
 have hk : IsKey (.int .i64) (.int .i64 x) := rfl
 have hck : (Instr.checkKey false 10000 K (.int .i64 x)).run P w = .ok () w := run_checkKey hK hk false 9999
 have hg : (getObj r).run P w = .ok (.map es c) w := MapKept.run_getObj_map h1
 have keep : ∀ o : Obj, w.grownBy { w with heap := w.heap.setIfInBounds r o } (some r) := fun o =>
  ⟨rfl, rfl, rfl, by simp, fun k hk' hne => by simp only [Array.getElem?_setIfInBounds]; rw [if_neg (fun e => hne (by rw [e]))]⟩
 unfold Instr.mapUpdate
 rcases findNow_ints es.toList l 0 x h3 with ⟨q1, q2, q3⟩ | ⟨j, u, q1, q2, ⟨e, he, hek⟩, q4⟩
 ·have hf := run_findKey (P := P) (w := w) hK q2
  have hset := run_setObj_map (P := P) (.map (es.push { key := .int .i64 x, val := v, born := c }) (c + 1)) h1
  refine ⟨_, by simp [run_underlying hT, Result.andThen, hg, hck, hf, hset]; rfl, ⟨_, _, (heap_set h1).1, stamped_push h2 q3, ?_⟩, keep _, by simp⟩
  have haset : ∀ l : AL, alook l x = none → aset l x v = l ++ [(x, v)] := by
   intro l
   induction l with
   | nil => intro _; rfl
   | cons p r ih =>
    obtain ⟨k, u⟩ := p
    intro hl
    simp only [alook] at hl
    by_cases hkx : k = x
    ·simp [hkx] at hl
    ·simp only [if_neg hkx] at hl
     simp [aset, hkx, ih hl]
  simp [haset l q1, h3]
 ·have hf := run_findKey (P := P) (w := w) hK q2
  simp only [Nat.zero_add] at hf
  have hold : ((es[j]?).map (·.key)).getD (.int .i64 x) = .int .i64 x := by
   have : es[j]? = some e := by simpa using he
   rw [this]; simp [hek]
  have hstay : (Instr.keyThatStays (.int .i64 x) (.int .i64 x)).run P w = .ok (.int .i64 x) w := by
   unfold Instr.keyThatStays; simp [Instr.sameBits]
  have hset := run_setObj_map (P := P) (.map (es.modify j fun e => { e with key := .int .i64 x, val := v }) c) h1
  refine ⟨_, by simp [run_underlying hT, Result.andThen, hg, hck, hf, hset, hold, hstay]; rfl, ⟨_, _, (heap_set h1).1, ?_, ?_⟩, keep _, by simp⟩
  ·refine stamped_modify h2 j _ (fun _ _ => rfl) (fun e' _ he' => ?_)
   have e1 : es[j]? = some e := by simpa using he
   rw [e1] at he'
   cases he'
   exact hek.symm
  ·have := q4 v
   simpa using this
theorem wpList_want {ops : Array Oper} {rest : List Oper} {o : Oper} {a : Act} {Q : Exit → Act → World → Prop} (hw : Region.wanted o (yielded ops a.tmps) = true)
  (h : ∀ K : Act → World → Prop, (∀ a w, wpList P ops Q rest a w → K a w) → o.wp P a w K Q) : wpList P ops Q (o :: rest) a w :=
 wpList_step fun K hK => by rw [if_pos hw]; exact h K hK
/-- the operation m[x] -/
theorem wpList_lookup_ints {ops : Array Oper} {rest : List Oper} {o : Oper} {a : Act} {Q : Exit → Act → World → Prop} (hg : Region.wanted o (yielded ops a.tmps) = true) (m xo : Operand) (ok : Bool) (hop : o.op = Op.lookup T m xo ok)
  (hT : P.underlying T = some (.map K E)) (hK : P.underlying K = some (.int .i64)) {z : Value} (hz : (zeroValue E).run P w = .ok z w) (hm : a.eval m = .map (some r)) (h : IntMap w r l) {x : Int} (hx : a.eval xo = .int .i64 x)
  (hk : wpList P ops Q rest (a.put o.dst (if ok then .tuple #[(alook l x).getD z, .bool (alook l x).isSome] else (alook l x).getD z)) w) : wpList P ops Q (o :: rest) a w := by
 refine wpList_want hg fun K' hK' => ?_
 unfold Oper.wp
 simp only [execOp, hop, hm, hx]
 simp [run_lookup_ints hT hK hz h x ok, Result.andThen]
 exact hK' _ _ hk
/-- the operation m[x] = v -/
theorem wpList_update_ints {ops : Array Oper} {rest : List Oper} {o : Oper} {a : Act} {Q : Exit → Act → World → Prop} (hg : Region.wanted o (yielded ops a.tmps) = true) (m xo vo : Operand) (hop : o.op = Op.mapUpdate T m xo vo)
  (hT : P.underlying T = some (.map K E)) (hK : P.underlying K = some (.int .i64)) (hm : a.eval m = .map (some r)) (h : IntMap w r l) {x : Int} {v : Value} (hx : a.eval xo = .int .i64 x) (hv : a.eval vo = v)
  (hk : ∀ w', IntMap w' r (aset l x v) → w.grownBy w' (some r) → w'.heap.size = w.heap.size → wpList P ops Q rest (a.put o.dst undef) w') : wpList P ops Q (o :: rest) a w := by
 refine wpList_want hg fun K' hK' => ?_
 obtain ⟨w', hrun, h1, h2, h3⟩ := run_update_ints hT hK h x v
 unfold Oper.wp
 simp only [execOp, hop, hm, hx, hv]
 simp [hrun, Result.andThen]
 exact hK' _ _ (hk w' h1 h2 h3)
end
/-- block r is a map to bool in which just the numbers S are true -/
def SetMap (w : World) (r : Nat) (S : List Int) : Prop := ∃ l, IntMap w r l ∧ ∀ x, (alook l x).getD (.bool false) = .bool (hasB S x)
theorem SetMap.lt {w : World} {r : Nat} {l : List Int} (h : SetMap w r l) : r < w.heap.size := by obtain ⟨l, h, _⟩ := h; exact h.lt
theorem SetMap.below {B r : Nat} {w w' : World} {l : List Int} (h : SetMap w r l) (hb : Below B w w') (hr : r < B) : SetMap w' r l := by
 obtain ⟨l, h1, h2⟩ := h; exact ⟨l, h1.below hb hr, h2⟩
theorem SetMap.ext {r : Nat} {w w' : World} {l : List Int} (h : SetMap w r l) (hb : Below w.heap.size w w') : SetMap w' r l := h.below hb h.lt
theorem SetMap.alloc {r : Nat} {w : World} {l : List Int} (h : SetMap w r l) (o : Obj) : SetMap (w.alloc o) r l := h.ext ((Below.refl _ _).alloc (Nat.le_refl _) o)
theorem SetMap.setCell {r : Nat} {w : World} {l : List Int} (h : SetMap w r l) (a : Addr) (v : Value) (hne : r ≠ a.block) : SetMap (w.setCell a v) r l := by
 obtain ⟨l, h1, h2⟩ := h; exact ⟨l, h1.setCell a v hne, h2⟩
theorem SetMap.grown {r : Nat} {w w' : World} {l : List Int} {row : Option Nat} (h : SetMap w r l) (hg : w.grownBy w' row) (hne : some r ≠ row) : SetMap w' r l := by
 obtain ⟨l, ⟨es, c, h1, h2⟩, h3⟩ := h
 exact ⟨l, ⟨es, c, (hg.block r (Array.getElem?_eq_some_iff.1 h1).1 hne).trans h1, h2⟩, h3⟩
theorem SetMap.made (w : World) : SetMap (w.alloc (.map #[] 0)) w.heap.size [] := ⟨[], IntMap.made w, fun x => by simp [alook, hasB]⟩
theorem hasB_snoc (S : List Int) (x y : Int) : hasB (S ++ [x]) y = (hasB S y || (x == y)) := by
 unfold hasB
 rw [Bool.eq_iff_iff]
 simp only [List.contains_iff_mem, List.mem_append, List.mem_singleton, Bool.or_eq_true, beq_iff_eq]
 exact or_congr Iff.rfl eq_comm
section
variable {P : Program} {w : World} {T K E : TypeId} {r : Nat} {S : List Int}
theorem wpList_lookup_set {ops : Array Oper} {rest : List Oper} {o : Oper} {a : Act} {Q : Exit → Act → World → Prop} (hg : Region.wanted o (yielded ops a.tmps) = true) (m xo : Operand) (hop : o.op = Op.lookup T m xo false)
  (hT : P.underlying T = some (.map K E)) (hK : P.underlying K = some (.int .i64)) (hz : (zeroValue E).run P w = .ok (.bool false) w) (hm : a.eval m = .map (some r)) (h : SetMap w r S) {x : Int} (hx : a.eval xo = .int .i64 x)
  (hk : wpList P ops Q rest (a.put o.dst (.bool (hasB S x))) w) : wpList P ops Q (o :: rest) a w := by
 obtain ⟨l, h1, h2⟩ := h
 refine wpList_lookup_ints hg m xo false hop hT hK hz hm h1 hx ?_
 simp only [Bool.false_eq_true, if_false, h2]
 exact hk
theorem wpList_update_set {ops : Array Oper} {rest : List Oper} {o : Oper} {a : Act} {Q : Exit → Act → World → Prop} (hg : Region.wanted o (yielded ops a.tmps) = true) (m xo vo : Operand) (hop : o.op = Op.mapUpdate T m xo vo)
  (hT : P.underlying T = some (.map K E)) (hK : P.underlying K = some (.int .i64)) (hm : a.eval m = .map (some r)) (h : SetMap w r S) {x : Int} (hx : a.eval xo = .int .i64 x) (hv : a.eval vo = .bool true)
  (hk : ∀ w', SetMap w' r (S ++ [x]) → w.grownBy w' (some r) → w'.heap.size = w.heap.size → wpList P ops Q rest (a.put o.dst undef) w') : wpList P ops Q (o :: rest) a w := by
 obtain ⟨l, h1, h2⟩ := h
 refine wpList_update_ints hg m xo vo hop hT hK hm h1 hx hv fun w' q1 q2 q3 => hk w' ⟨_, q1, fun y => ?_⟩ q2 q3
 rw [alook_aset, hasB_snoc]
 by_cases e : y = x
 ·subst e; simp
 ·have e2 : (x == y) = false := by simp; exact fun h => e h.symm
  rw [if_neg e, e2, Bool.or_false]; exact h2 y
end
end Go.Proofs.YteiaeaciaglmgaaGreat
namespace Go.Proofs.YteiaeaciaglmgaaGreat
open Go.RowKit
/-- a function value that answers whether a number fulfils a condition, in every world behind w -/
def OkFn (P : Program) (g : FuncId) (cap : Array Value) (w : World) (p : Int → Bool) : Prop :=
 (∀ args W, (callFunc g args).run P W = .ok (.enter g args) W) ∧
 ∀ W x, Below w.heap.size w W → I64 x → Calls P g (#[.int .i64 x] ++ cap) W fun e W' => e = .returned (.bool (p x)) ∧ Below W.heap.size W W'
theorem OkFn.below {P : Program} {g : FuncId} {cap : Array Value} {w w' : World} {p : Int → Bool} (h : OkFn P g cap w p) (hb : Below w.heap.size w w') : OkFn P g cap w' p :=
 ⟨h.1, fun W x hW hx => h.2 W x (hb.trans (hW.mono hb.size)) hx⟩
/-- do all numbers of a list fulfil a condition, and are they pairwise different? -/
def allB (zs : List Int) (p : Int → Bool) : Bool := zs.all p
theorem allB_succ {zs : List Int} {p : Int → Bool} {k : Nat} (h : k < zs.length) : allB (zs.take (k + 1)) p = (allB (zs.take k) p && p (nth zs k)) := by
 unfold allB; rw [List.take_succ_eq_append_getElem h, nth_lt h, List.all_append]; simp
theorem allB_take_false {zs : List Int} {p : Int → Bool} {k : Nat} (h : allB (zs.take k) p = false) : allB zs p = false := by
 unfold allB at *
 rw [List.all_eq_false] at *
 obtain ⟨x, hx, hp⟩ := h
 exact ⟨x, List.mem_of_mem_take hx, hp⟩
theorem allB_take_all {zs : List Int} {p : Int → Bool} {k : Nat} (h : zs.length ≤ k) : allB (zs.take k) p = allB zs p := by rw [List.take_of_length_le h]
set_option maxHeartbeats 1000000 in
/-- flows.different -/
theorem fdifferent_any (B : Nat) (w : World) (v : Value) (zs : List Int) (g : FuncId) (cap : Array Value) (p : Int → Bool) (hv : IsInts B w v zs) (hB : B ≤ w.heap.size) (hg : OkFn Tryz.prog g cap w p) :
  Calls Tryz.prog 61 #[v, .func (.func g) #[] cap] w fun e w' => e = .returned (.bool (diffB zs && allB zs p)) ∧ Below w.heap.size w w' := by
 have HG := Lib.hid hg.2
 have eg := hg.1
 obtain ⟨b, off, cp, ⟨a, rfl, hcap, hmax, ha⟩, hlen, hz, hc⟩ := hv
 have HC := Lib.hid hc
 have HZ := Lib.hid hz
 clear hc hz hg
 have hmm := @run_makeMap Tryz.prog
 go_enter Tryz.func61, Tryz.ntmps61
 go_wp2
 go_loopw [11] (fun i wr => ∃ k : Nat, k ≤ zs.length ∧ i = .int .i64 k ∧ diffB (zs.take k) = true ∧ allB (zs.take k) p = true ∧ SetMap wr w.heap.size (zs.take k) ∧ Below w.heap.size w wr) (fun i _ => zs.length - (intOf i).toNat)
 case atStart => exact ⟨0, by omega, rfl, rfl, rfl, SetMap.made w, box_below' _ _⟩
 case round =>
  obtain ⟨k, hk, rfl, h1, h2, h3, hbr⟩ := hrel
  have H1 := Lib.hid h1
  have H2 := Lib.hid h2
  have H3 := Lib.hid h3
  have HBR := Lib.hid hbr
  clear h1 h2 h3 hbr
  by_cases hlt : k < zs.length
  ·obtain rfl : a = some ⟨b, off, none⟩ := by rcases ha with ha | ha; exact ha; omega
   have hcell := (HBR.out.cell (p := ⟨b, off + k, none⟩) (by have := (HC.out k hlt).1; show b < _; omega)).trans (HC.out k hlt).2
   have HS1 := Lib.hid (diffB_succ hlt)
   have HS2 := Lib.hid (allB_succ (p := p) hlt)
   have HT := Lib.hid (List.take_succ_eq_append_getElem hlt)
   have HX : Hid (I64 (nth zs k)) := Lib.hid (HZ.out _ (by rw [nth_eq_getElem hlt]; exact List.getElem_mem hlt))
   cases hm : hasB (zs.take k) (nth zs k)
   ·have HM := Lib.hid hm
    clear hm
    cases hp : p (nth zs k)
    ·have HP := Lib.hid hp
     have HF : Hid ((diffB zs && allB zs p) = false) := Lib.hid (by rw [allB_take_false (k := k + 1) (by rw [HS2.out, hp]; simp)]; simp)
     clear hp
     go_wp2_with (first
      | (at_lookup; refine wpList_lookup_set rfl _ _ rfl Tryz.underlying98 Tryz.underlying3 (Tryz.zeroValue4 _) rfl H3.out rfl ?_; rw [HM.out])
      | (refine (HG.out wr (nth zs k) HBR.out HX.out).mono ?_; rintro e w7 ⟨rfl, hb7⟩; have HB7 := Lib.hid hb7; clear hb7; rw [HP.out]))
     go_ret
     exact ⟨by rw [HF.out]; rfl, HBR.out.trans (HB7.out.mono HBR.out.size)⟩
    ·have HP := Lib.hid hp
     clear hp
     go_wp2_with (first
      | (at_lookup; refine wpList_lookup_set rfl _ _ rfl Tryz.underlying98 Tryz.underlying3 (Tryz.zeroValue4 _) rfl H3.out rfl ?_; rw [HM.out])
      | (refine (HG.out wr (nth zs k) HBR.out HX.out).mono ?_; rintro e w7 ⟨rfl, hb7⟩; have HB7 := Lib.hid hb7; clear hb7; rw [HP.out])
      | (at_mapUpdate; refine wpList_update_set rfl _ _ _ rfl Tryz.underlying98 Tryz.underlying3 rfl (H3.out.ext HB7.out) rfl rfl ?_; intro w8 hs8 hg8 hz8; have HS8 := Lib.hid hs8; have HG8 := Lib.hid hg8; clear hs8 hg8 hz8))
     go_roundw
     case rel =>
      exact ⟨k + 1, by omega, by go_num, by rw [HS1.out, H1.out, HM.out]; rfl, by rw [HS2.out, H2.out, HP.out]; rfl,
       by rw [HT.out, ← nth_eq_getElem hlt]; exact HS8.out, (HBR.out.trans (HB7.out.mono HBR.out.size)).grown HG8.out (by have := HB7.out.size; have := HBR.out.size; omega) (fun q hq => by cases hq; exact Nat.le_refl _)⟩
     case measure => simp [intOf]; omega
   ·have HM := Lib.hid hm
    have HF : Hid ((diffB zs && allB zs p) = false) := Lib.hid (by rw [diffB_take_false (k := k + 1) (by rw [HS1.out, hm]; simp)]; simp)
    clear hm
    go_wp2_with (at_lookup; refine wpList_lookup_set rfl _ _ rfl Tryz.underlying98 Tryz.underlying3 (Tryz.zeroValue4 _) rfl H3.out rfl ?_; rw [HM.out])
    go_ret
    exact ⟨by rw [HF.out]; rfl, HBR.out⟩
  ·have HF : Hid ((diffB zs && allB zs p) = true) := Lib.hid (by rw [← diffB_take_all (k := k) (by omega), ← allB_take_all (k := k) (by omega), H1.out, H2.out]; rfl)
   go_wp2
   go_ret
   exact ⟨by rw [HF.out]; rfl, HBR.out⟩
end Go.Proofs.YteiaeaciaglmgaaGreat
namespace Go.Proofs.YteiaeaciaglmgaaGreat
open Go.RowKit
theorem run_makeFunc_any {P : Program} (fn : Fn) (first cap : Array Value) (w : World) : (Instr.makeFunc fn first cap).run P w = .ok (.func fn first cap) w := rfl
/-- flows.counter -/
theorem counter_any (n : Int) (w : World) :
  Calls Tryz.prog 56 #[.int .i64 n] w fun e w' => e = .returned (.func (.func 73) #[] #[.pointer (some ⟨w.heap.size, 0, none⟩)]) ∧ w' = w.alloc (.cells #[.int .i64 n] 3) := by
 have hmf := @run_makeFunc_any Tryz.prog
 go_enter Tryz.func56, Tryz.ntmps56
 go_wp2
 go_ret
 exact ⟨rfl, rfl⟩
/-- the function that flows.counter returns -/
theorem count_any (n m : Int) (b : Nat) (w : World) (h : Cell1 w b (.int .i64 n)) (hn : 0 ≤ n) (hn2 : n ≤ 1000000000000000) (hm : 0 ≤ m) (hm2 : m ≤ 1000000000000000) :
  Calls Tryz.prog 73 #[.int .i64 m, .pointer (some ⟨b, 0, none⟩)] w fun e w' => e = .returned (.int .i64 n) ∧ w' = w.setCell ⟨b, 0, none⟩ (.int .i64 (n + m)) := by
 have h1 := h.cell
 have h2 := h.free
 have h3 := (h.set (.int .i64 (n + m))).cell
 clear h
 go_enter Tryz.func73, Tryz.ntmps73
 go_wp2
 go_ret
 refine ⟨?_, rfl⟩
 show Ending.returned (.int .i64 _) = _
 congr 2
/-- the condition that a spot may go into a lot -/
def freeB (m : Int) (S : List Int) (x : Int) : Bool := decide (0 ≤ x) && (decide (x < m) && !hasB S x)
def outB (m : Int) (x : Int) : Bool := decide (0 ≤ x) && decide (x < m)
theorem free_any (x m : Int) (b1 b2 r : Nat) (S : List Int) (w : World) (h1 : Box w b1 #[.int .i64 m]) (h2 : Box w b2 #[.map (some r)]) (h3 : SetMap w r S) :
  Calls Tryz.prog 60 #[.int .i64 x, .pointer (some ⟨b1, 0, none⟩), .pointer (some ⟨b2, 0, none⟩)] w fun e w' => e = .returned (.bool (freeB m S x)) ∧ w' = w := by
 have H3 := Lib.hid h3
 have c1 : w.cell? ⟨b1, 0, none⟩ = some (.int .i64 m) := h1.2 0
 have c2 : w.cell? ⟨b2, 0, none⟩ = some (.map (some r)) := h2.2 0
 have HE : Hid (freeB m S x = (decide (0 ≤ x) && (decide (x < m) && !hasB S x))) := Lib.hid rfl
 clear h1 h2 h3
 by_cases q1 : 0 ≤ x
 ·have q1' : decide (0 ≤ x) = true := decide_eq_true q1
  by_cases q2 : x < m
  ·have q2' : decide (x < m) = true := decide_eq_true q2
   have HF : Hid (freeB m S x = !hasB S x) := Lib.hid (by rw [HE.out, q1', q2']; rfl)
   go_enter Tryz.func60, Tryz.ntmps60
   go_wp2_with (at_lookup; refine wpList_lookup_set rfl _ _ rfl Tryz.underlying98 Tryz.underlying3 (Tryz.zeroValue4 _) rfl H3.out rfl ?_)
   go_ret
   exact ⟨by rw [HF.out]; rfl, rfl⟩
  ·have q2' : decide (x < m) = false := decide_eq_false q2
   have HF : Hid (freeB m S x = false) := Lib.hid (by rw [HE.out, q2']; simp)
   go_enter Tryz.func60, Tryz.ntmps60
   go_wp2
   go_ret
   exact ⟨by rw [HF.out]; rfl, rfl⟩
 ·have q1' : decide (0 ≤ x) = false := decide_eq_false q1
  have HF : Hid (freeB m S x = false) := Lib.hid (by rw [HE.out, q1']; rfl)
  go_enter Tryz.func60, Tryz.ntmps60
  go_wp2
  go_ret
  exact ⟨by rw [HF.out]; rfl, rfl⟩
theorem out_any (x m : Int) (b1 : Nat) (w : World) (h1 : Box w b1 #[.int .i64 m]) :
  Calls Tryz.prog 62 #[.int .i64 x, .pointer (some ⟨b1, 0, none⟩)] w fun e w' => e = .returned (.bool (outB m x)) ∧ w' = w := by
 have c1 : w.cell? ⟨b1, 0, none⟩ = some (.int .i64 m) := h1.2 0
 have HE : Hid (outB m x = (decide (0 ≤ x) && decide (x < m))) := Lib.hid rfl
 clear h1
 by_cases q1 : 0 ≤ x
 ·have q1' : decide (0 ≤ x) = true := decide_eq_true q1
  have HF : Hid (outB m x = decide (x < m)) := Lib.hid (by rw [HE.out, q1']; rfl)
  go_enter Tryz.func62, Tryz.ntmps62
  go_wp2
  go_ret
  exact ⟨by rw [HF.out]; rfl, rfl⟩
 ·have q1' : decide (0 ≤ x) = false := decide_eq_false q1
  have HF : Hid (outB m x = false) := Lib.hid (by rw [HE.out, q1']; rfl)
  go_enter Tryz.func62, Tryz.ntmps62
  go_wp2
  go_ret
  exact ⟨by rw [HF.out]; rfl, rfl⟩
end Go.Proofs.YteiaeaciaglmgaaGreat
namespace Go.Proofs.YteiaeaciaglmgaaGreat
open Go.RowKit
/-- lotB as flows.Check has it -/
theorem lotB_alt (f : Flow) (k : Nat) : lotB f k =
  ((decide ((lotAt f.lots k).ins.length ≠ 0) && (diffB (lotAt f.lots k).ins && allB (lotAt f.lots k).ins (freeB (beforeI f k) (goneL f k)))) &&
   (if (lotAt f.lots k).known then decide ((lotAt f.lots k).perm.length = (lotAt f.lots k).ins.length) && (diffB (lotAt f.lots k).perm && allB (lotAt f.lots k).perm (outB (lotAt f.lots k).ins.length)) else decide ((lotAt f.lots k).perm.length = 0))) := by
 rw [lotB_eq]
 have e1 : insOk f k (lotAt f.lots k).ins = allB (lotAt f.lots k).ins (freeB (beforeI f k) (goneL f k)) := by
  unfold insOk allB
  congr 1
  funext x
  unfold freeB
  rw [hasB_goneL, Bool.and_assoc]
 have e2 : ∀ l : List Int, decide (l ≠ []) = decide (l.length ≠ 0) := by intro l; cases l <;> simp
 have e3 : ∀ l : List Int, decide (l = []) = decide (l.length = 0) := by intro l; cases l <;> simp
 rw [e1, e2, e3]
 congr 1
 ·rw [Bool.and_assoc]
 ·cases (lotAt f.lots k).known
  ·rfl
  ·simp only [if_true]
   unfold permB inB allB outB
   have e4 : decide (((lotAt f.lots k).perm.length : Int) = ((lotAt f.lots k).ins.length : Int)) = decide ((lotAt f.lots k).perm.length = (lotAt f.lots k).ins.length) := by
    rw [decide_eq_decide]; omega
   rw [e4]
   cases decide ((lotAt f.lots k).perm.length = (lotAt f.lots k).ins.length) <;> cases diffB (lotAt f.lots k).perm <;> simp
/-- what holds between two rounds of flows.Check: bm: the map's block, bg: the cell that holds the map, bc: the counter's cell; S: the spots that are gone, c: how many spots there are -/
def CheckInv (w W : World) (bm bg bc : Nat) (fb : Array Value) (S : List Int) (c : Int) : Prop :=
 Below w.heap.size w W ∧ Box W w.heap.size fb ∧ SetMap W bm S ∧ Box W bg #[.map (some bm)] ∧ Cell1 W bc (.int .i64 c) ∧ w.heap.size < bm ∧ bm < bg ∧ bg < bc
theorem CheckInv.ext {w W W' : World} {bm bg bc : Nat} {fb : Array Value} {S : List Int} {c : Int} (h : CheckInv w W bm bg bc fb S c) (hb : Below W.heap.size W W') : CheckInv w W' bm bg bc fb S c :=
 ⟨h.1.trans (hb.mono h.1.size), h.2.1.ext hb, h.2.2.1.ext hb, h.2.2.2.1.ext hb, h.2.2.2.2.1.ext hb, h.2.2.2.2.2⟩
theorem CheckInv.alloc {w W : World} {bm bg bc : Nat} {fb : Array Value} {S : List Int} {c : Int} (h : CheckInv w W bm bg bc fb S c) (o : Obj) : CheckInv w (W.alloc o) bm bg bc fb S c := h.ext (box_below' W o)
theorem CheckInv.count {w W : World} {bm bg bc : Nat} {fb : Array Value} {S : List Int} {c : Int} (h : CheckInv w W bm bg bc fb S c) (m : Int) : CheckInv w (W.setCell ⟨bc, 0, none⟩ (.int .i64 m)) bm bg bc fb S m := by
 obtain ⟨h1, h2, h3, h4, h5, h6, h7, h8⟩ := h
 have hg := grown_setCell W ⟨bc, 0, none⟩ (.int .i64 m)
 exact ⟨h1.setCell (by show w.heap.size ≤ bc; omega) _, h2.grown hg (by simp; omega), h3.grown hg (by simp; omega), h4.grown hg (by simp; omega), h5.set _, h6, h7, h8⟩
theorem CheckInv.go {w W W' : World} {bm bg bc : Nat} {fb : Array Value} {S S' : List Int} {c : Int} (h : CheckInv w W bm bg bc fb S c) (hs : SetMap W' bm S') (hg : W.grownBy W' (some bm)) : CheckInv w W' bm bg bc fb S' c := by
 obtain ⟨h1, h2, h3, h4, h5, h6, h7, h8⟩ := h
 exact ⟨h1.grown hg h1.size (fun q hq => by cases hq; omega), h2.grown hg (by simp; omega), hs, h4.grown hg (by simp; omega), h5.grown hg (by simp; omega), h6, h7, h8⟩
set_option maxHeartbeats 2000000 in
set_option maxRecDepth 100000 in
/-- flows.Check -/
theorem fcheck_any (B : Nat) (w : World) (vs vl : Value) (f : Flow) (hf : IsFlow B w vs vl f) (hB : B ≤ w.heap.size) :
  Calls Tryz.prog 39 #[.agg #[vs, vl]] w fun e w' => e = .returned (.int .i64 (checkE f)) ∧ Below w.heap.size w w' := by
 have HF := Lib.hid hf
 obtain ⟨rfl, ⟨hs1, hs2⟩, hl⟩ := hf
 have HLens := Lib.hid hl.lens
 have HBI := Lib.hid (beforeI_le (f := f) fun d hd => (hl.lens d hd).1)
 obtain ⟨b, off, cap, ⟨a, rfl, hcap, hmax, ha⟩, hlen, hc⟩ := hl
 have HC := Lib.hid hc
 clear hc
 by_cases h1 : 64 < f.senders
 ·have HT : Hid (checkE f = 2) := Lib.hid (by unfold checkE; rw [if_pos (Or.inl h1)])
  have h1' : decide (64 < f.senders) = true := decide_eq_true h1
  go_enter Tryz.func39, Tryz.ntmps39
  go_wp2
  go_ret
  exact ⟨by rw [HT.out]; rfl, box_below (Nat.le_refl _) _⟩
 have h1' : decide (64 < f.senders) = false := decide_eq_false h1
 by_cases h2 : 2000 < f.lots.length
 ·have HT : Hid (checkE f = 2) := Lib.hid (by unfold checkE; rw [if_pos (Or.inr (Or.inl h2))])
  have h2' : decide (2000 < (f.lots.length : Int)) = true := decide_eq_true (by omega)
  go_enter Tryz.func39, Tryz.ntmps39
  go_wp2
  go_ret
  exact ⟨by rw [HT.out]; rfl, box_below (Nat.le_refl _) _⟩
 have h2' : decide (2000 < (f.lots.length : Int)) = false := decide_eq_false (by omega)
 go_enter Tryz.func39, Tryz.ntmps39
 go_wp2
 have HX1 := Lib.hid (Box.new w #[.int .i64 f.senders, .slice a f.lots.length cap] 24)
 have HB1 := Lib.hid (box_below' w (.cells #[.int .i64 f.senders, .slice a f.lots.length cap] 24))
 obtain ⟨w1, hw1⟩ : ∃ w1, w.alloc (.cells #[.int .i64 f.senders, .slice a f.lots.length cap] 24) = w1 := ⟨_, rfl⟩
 rw [hw1] at HX1 HB1 ⊢
 clear hw1
 go_loopw [3, 29] (fun m i wr => ∃ k : Nat, k ≤ f.lots.length ∧ i = .int .i64 k ∧ m = .int .i64 (beforeI f k) ∧ Below w1.heap.size w1 wr) (fun _ i _ => f.lots.length - (intOf i).toNat)
 case atStart => exact ⟨0, by omega, rfl, rfl, Below.refl _ _⟩
 case round =>
  obtain ⟨k, hk, rfl, rfl, hbr⟩ := hrel
  have HBR := Lib.hid hbr
  have HXR := Lib.hid (HX1.out.ext hbr)
  have HWR : Hid (Below w.heap.size w wr) := Lib.hid (HB1.out.trans (hbr.mono HB1.out.size))
  clear hbr
  by_cases hlt : k < f.lots.length
  ·obtain rfl : a = some ⟨b, off, none⟩ := by rcases ha with ha | ha; exact ha; omega
   obtain ⟨vi, vk, vp, ⟨hb, c1⟩, ⟨_, c2⟩, ⟨_, c3⟩, ⟨⟨b1, off1, cap1, ⟨a1, rfl, hc1, _⟩, hl1, _⟩, rfl, ⟨b2, off2, cap2, ⟨a2, rfl, hc2, _⟩, hl2, _⟩⟩⟩ := HC.out k hlt
   have q1 := (HWR.out.cell (p := ⟨b, off + k * 3, none⟩) (by show b < _; omega)).trans c1
   have q2 := (HWR.out.cell (p := ⟨b, off + k * 3 + 1, none⟩) (by show b < _; omega)).trans c2
   have q3 := (HWR.out.cell (p := ⟨b, off + k * 3 + 2, none⟩) (by show b < _; omega)).trans c3
   obtain ⟨g1, g2⟩ := HBI.out k (by omega)
   have HBS : Hid (beforeI f (k + 1) = beforeI f k + (lotAt f.lots k).ins.length) := Lib.hid rfl
   obtain ⟨d, hd⟩ : ∃ d, lotAt f.lots k = d := ⟨_, rfl⟩
   rw [hd] at q1 q2 q3 HBS hl1 hl2 hc1 hc2
   clear hd c1 c2 c3
   go_wp2
   go_roundw
   case rel => exact ⟨k + 1, by omega, by go_num, by rw [HBS.out], HBR.out.alloc (by have := HBR.out.size; omega) _⟩
   case measure => simp [intOf]; omega
  ·obtain rfl : k = f.lots.length := by omega
   obtain ⟨zr, rr⟩ := HXR.out
   by_cases h3 : 50000 < beforeI f f.lots.length
   ·have HT : Hid (checkE f = 2) := Lib.hid (by unfold checkE; rw [if_pos (Or.inr (Or.inr h3))])
    have h3' : decide (50000 < beforeI f f.lots.length) = true := decide_eq_true h3
    go_wp2
    go_ret
    exact ⟨by rw [HT.out]; rfl, HWR.out⟩
   have h3' : decide (50000 < beforeI f f.lots.length) = false := decide_eq_false h3
   by_cases h4 : f.senders < 0
   ·have HT : Hid (checkE f = 250) := Lib.hid (by unfold checkE; rw [if_neg (by omega), if_pos h4])
    have h4' : decide (f.senders < 0) = true := decide_eq_true h4
    go_wp2
    go_ret
    exact ⟨by rw [HT.out]; rfl, HWR.out⟩
   have h4' : decide (f.senders < 0) = false := decide_eq_false h4
   have HT : Hid (checkE f = if lotsB f f.lots.length then 0 else 250) := Lib.hid (by unfold checkE; rw [if_neg (by omega), if_neg h4])
   have hmm := @run_makeMap Tryz.prog
   have z1 : w.heap.size < wr.heap.size + 1 := by omega
   have z2 : w.heap.size < wr.heap.size + 1 + 1 := by omega
   go_wp2_with (go_at_call 56; refine (counter_any _ _).mono ?_; rintro e w' ⟨rfl, rfl⟩)
   obtain ⟨bm, hbm⟩ : ∃ x, wr.heap.size = x := ⟨_, rfl⟩
   obtain ⟨bg, hbg⟩ : ∃ x, bm + 1 = x := ⟨_, rfl⟩
   obtain ⟨bc, hbc⟩ : ∃ x, bg + 1 = x := ⟨_, rfl⟩
   have HI : Hid (CheckInv w (((wr.alloc (.map #[] 0)).alloc (.cells #[.map (some bm)] 98)).alloc (.cells #[.int .i64 f.senders] 3)) bm bg bc #[.int .i64 f.senders, .slice a f.lots.length cap] [] f.senders) := by
    have s1 : (wr.alloc (.map #[] 0)).heap.size = bg := by simp [hbm, hbg]
    have s2 : ((wr.alloc (.map #[] 0)).alloc (.cells #[.map (some bm)] 98)).heap.size = bc := by simp [hbm, hbg, hbc]
    have m1 := SetMap.made wr
    rw [hbm] at m1
    have x1 := Box.new (wr.alloc (.map #[] 0)) #[.map (some bm)] 98
    rw [s1] at x1
    have k1 := Cell1.new ((wr.alloc (.map #[] 0)).alloc (.cells #[.map (some bm)] 98)) (.int .i64 f.senders) 3
    rw [s2] at k1
    have b1 := ((box_below' wr (.map #[] 0)).trans ((box_below' (wr.alloc (.map #[] 0)) (.cells #[.map (some bm)] 98)).mono (by simp))).trans ((box_below' ((wr.alloc (.map #[] 0)).alloc (.cells #[.map (some bm)] 98)) (.cells #[.int .i64 f.senders] 3)).mono (by rw [s2]; omega))
    exact Lib.hid ⟨HWR.out.trans (b1.mono (by omega)), ((HXR.out.alloc _).alloc _).alloc _, (m1.alloc _).alloc _, x1.alloc _, k1, by omega, by omega, by omega⟩
   rw [hbm, hbg, hbc]
   obtain ⟨w2, hw2⟩ : ∃ w2, (((wr.alloc (.map #[] 0)).alloc (.cells #[.map (some bm)] 98)).alloc (.cells #[.int .i64 f.senders] 3)) = w2 := ⟨_, rfl⟩
   rw [hw2] at HI ⊢
   clear hw2 hbm hbg hbc z1 z2 zr rr HXR HBR hmm
   go_loopw [51] (fun i W => ∃ k : Nat, k ≤ f.lots.length ∧ i = .int .i64 k ∧ lotsB f k = true ∧ CheckInv w W bm bg bc #[.int .i64 f.senders, .slice a f.lots.length cap] (goneL f k) (beforeI f k)) (fun i _ => f.lots.length - (intOf i).toNat)
   case atStart => exact ⟨0, by omega, rfl, rfl, HI.out⟩
   case round =>
    obtain ⟨k, hk, rfl, hno, hci⟩ := hrel
    have HN := Lib.hid hno
    have HCI := Lib.hid hci
    clear hno hci
    by_cases hlt : k < f.lots.length
    ·obtain rfl : a = some ⟨b, off, none⟩ := by rcases ha with ha | ha; exact ha; omega
     obtain ⟨vi, vk, vp, ⟨hb, c1⟩, ⟨_, c2⟩, ⟨_, c3⟩, hlot⟩ := HC.out k hlt
     have HLT := Lib.hid hlot
     obtain ⟨⟨b1, off1, cap1, ⟨a1, rfl, hc1, _⟩, hl1, _⟩, rfl, ⟨b2, off2, cap2, ⟨a2, rfl, hc2, _⟩, hl2, _⟩⟩ := hlot
     have HWR := Lib.hid HCI.out.1
     have q1 := (HWR.out.cell (p := ⟨b, off + k * 3, none⟩) (by show b < _; omega)).trans c1
     have q2 := (HWR.out.cell (p := ⟨b, off + k * 3 + 1, none⟩) (by show b < _; omega)).trans c2
     have q3 := (HWR.out.cell (p := ⟨b, off + k * 3 + 2, none⟩) (by show b < _; omega)).trans c3
     have HG0 := Lib.hid (HBI.out k (by omega))
     have HBM := Lib.hid (beforeI_mono (f := f) (k := k) (m := f.lots.length) (by omega))
     have HBS : Hid (beforeI f (k + 1) = beforeI f k + (lotAt f.lots k).ins.length) := Lib.hid rfl
     have HLB := Lib.hid (lotB_alt f k)
     have HGS : Hid (goneL f (k + 1) = goneL f k ++ (lotAt f.lots k).ins) := Lib.hid rfl
     have HLS : Hid (lotsB f (k + 1) = (lotsB f k && lotB f k)) := Lib.hid rfl
     obtain ⟨d, hd⟩ : ∃ d, lotAt f.lots k = d := ⟨_, rfl⟩
     rw [hd] at q1 q2 q3 HBS HLT HLB HGS hl1 hl2 hc1 hc2
     clear hd c1 c2 c3
     obtain ⟨m, hm⟩ : ∃ m, wr.heap.size = m := ⟨_, rfl⟩
     have hwm : w.heap.size < m ∧ bc < m := by rw [← hm]; exact ⟨HCI.out.2.1.1, HCI.out.2.2.2.2.1.lt⟩
     go_wp2_with fail
     refine (count_any (beforeI f k) d.ins.length bc _ ((HCI.out.2.2.2.2.1.alloc _).alloc _) (by have := HG0.out; omega) (by have := HBM.out; omega) (by omega) (by omega)).mono ?_
     rintro e w' ⟨rfl, rfl⟩
     have HI3 : Hid (CheckInv w (((wr.alloc (.cells #[.slice a1 d.ins.length cap1, .bool d.known, .slice a2 d.perm.length cap2] 64)).alloc (.cells #[.int .i64 d.ins.length] 3)).setCell ⟨bc, 0, none⟩ (.int .i64 (beforeI f k + d.ins.length))) bm bg bc #[.int .i64 f.senders, .slice (some ⟨b, off, none⟩) f.lots.length cap] (goneL f k) (beforeI f (k + 1))) :=
      Lib.hid (by rw [HBS.out]; exact ((HCI.out.alloc _).alloc _).count _)
     have HX3 : Hid (Box (((wr.alloc (.cells #[.slice a1 d.ins.length cap1, .bool d.known, .slice a2 d.perm.length cap2] 64)).alloc (.cells #[.int .i64 d.ins.length] 3)).setCell ⟨bc, 0, none⟩ (.int .i64 (beforeI f k + d.ins.length))) m #[.slice a1 d.ins.length cap1, .bool d.known, .slice a2 d.perm.length cap2]) :=
      Lib.hid (by rw [← hm] at hwm ⊢; exact ((Box.new wr _ _).alloc _).grown (grown_setCell _ _ _) (by simp; omega))
     have HN3 : Hid (Box (((wr.alloc (.cells #[.slice a1 d.ins.length cap1, .bool d.known, .slice a2 d.perm.length cap2] 64)).alloc (.cells #[.int .i64 d.ins.length] 3)).setCell ⟨bc, 0, none⟩ (.int .i64 (beforeI f k + d.ins.length))) (m + 1) #[.int .i64 d.ins.length]) :=
      Lib.hid (by rw [← hm] at hwm ⊢; have := Box.new (wr.alloc (.cells #[.slice a1 d.ins.length cap1, .bool d.known, .slice a2 d.perm.length cap2] 64)) #[.int .i64 d.ins.length] 3; rw [show (wr.alloc (.cells #[.slice a1 d.ins.length cap1, .bool d.known, .slice a2 d.perm.length cap2] 64)).heap.size = wr.heap.size + 1 by simp] at this; exact this.grown (grown_setCell _ _ _) (by simp; omega))
     obtain ⟨w3, hw3⟩ : ∃ w3, (((wr.alloc (.cells #[.slice a1 d.ins.length cap1, .bool d.known, .slice a2 d.perm.length cap2] 64)).alloc (.cells #[.int .i64 d.ins.length] 3)).setCell ⟨bc, 0, none⟩ (.int .i64 (beforeI f k + d.ins.length))) = w3 := ⟨_, rfl⟩
     rw [hw3] at HI3 HX3 HN3 ⊢
     clear hw3 q1 q2 q3 hm
     have hmf := @run_makeFunc_any Tryz.prog
     obtain ⟨z1, r1⟩ := HX3.out
     obtain ⟨z2, r2⟩ := HN3.out
     by_cases hn0 : d.ins.length = 0
     ·have hn0' : ((d.ins.length : Int) == 0) = true := by simpa using hn0
      have HT2 : Hid (checkE f = 250) := Lib.hid (by rw [HT.out, lotsB_false (k := k + 1) (m := f.lots.length) (by rw [HLS.out, HLB.out]; simp [hn0]) (by omega)]; rfl)
      clear hn0
      go_wp2
      go_ret
      exact ⟨by rw [HT2.out]; rfl, HI3.out.1.alloc (HI3.out.1.size) _⟩
     ·have hn0' : ((d.ins.length : Int) == 0) = false := by simp; intro e; exact hn0 (by simp [e])
      have HN0 := Lib.hid hn0
      clear hn0
      go_wp2_with fail
      have HI4 := Lib.hid (HI3.out.alloc (.cells #[.int .i64 (beforeI f k)] 3))
      have HX4 := Lib.hid (HX3.out.alloc (.cells #[.int .i64 (beforeI f k)] 3))
      have HN4 := Lib.hid (HN3.out.alloc (.cells #[.int .i64 (beforeI f k)] 3))
      have HP4 := Lib.hid (Box.new w3 #[.int .i64 (beforeI f k)] 3)
      have HOK : Hid (OkFn Tryz.prog 60 #[.pointer (some ⟨w3.heap.size, 0, none⟩), .pointer (some ⟨bg, 0, none⟩)] (w3.alloc (.cells #[.int .i64 (beforeI f k)] 3)) (freeB (beforeI f k) (goneL f k))) :=
       Lib.hid ⟨enters_of Tryz.func60 (by kernel_rfl) rfl, fun W x hW hx => by
        have hi := HI4.out.ext hW
        exact (free_any x (beforeI f k) w3.heap.size bg bm (goneL f k) W (HP4.out.ext hW) hi.2.2.2.1 hi.2.2.1).mono (by rintro e w' ⟨rfl, rfl⟩; exact ⟨rfl, Below.refl _ _⟩)⟩
      have HL4 : Hid (IsLot B (w3.alloc (.cells #[.int .i64 (beforeI f k)] 3)) (.slice a1 d.ins.length cap1) (.bool d.known) (.slice a2 d.perm.length cap2) d) := Lib.hid (HLT.out.below HI4.out.1 hB)
      have hB4 : B ≤ (w3.alloc (.cells #[.int .i64 (beforeI f k)] 3)).heap.size := by have := HI4.out.1.size; omega
      obtain ⟨m3, hm3⟩ : ∃ m3, w3.heap.size = m3 := ⟨_, rfl⟩
      rw [hm3] at HP4 HOK ⊢
      have hm3' : m < m3 ∧ m + 1 < m3 ∧ bc < m3 := by rw [← hm3]; exact ⟨z1, z2, HI3.out.2.2.2.2.1.lt⟩
      obtain ⟨w4, hw4⟩ : ∃ w4, w3.alloc (.cells #[.int .i64 (beforeI f k)] 3) = w4 := ⟨_, rfl⟩
      rw [hw4] at HI4 HX4 HN4 HP4 HOK HL4 hB4 ⊢
      clear hm3 hw4 z1 r1 z2 r2
      cases hdf : (diffB d.ins && allB d.ins (freeB (beforeI f k) (goneL f k)))
      ·have HDF := Lib.hid hdf
       have HT2 : Hid (checkE f = 250) := Lib.hid (by rw [HT.out, lotsB_false (k := k + 1) (m := f.lots.length) (by rw [HLS.out, HLB.out, hdf]; simp) (by omega)]; rfl)
       clear hdf
       refine (fdifferent_any B w4 _ d.ins _ _ _ HL4.out.1 hB4 HOK.out).mono ?_
       rintro e w5 ⟨rfl, hb5⟩
       rw [HDF.out]
       have HB5 := Lib.hid hb5
       clear hb5
       go_wp2
       go_ret
       exact ⟨by rw [HT2.out]; rfl, HI4.out.1.trans (HB5.out.mono HI4.out.1.size)⟩
      ·have HDF := Lib.hid hdf
       clear hdf
       refine (fdifferent_any B w4 _ d.ins _ _ _ HL4.out.1 hB4 HOK.out).mono ?_
       rintro e w5 ⟨rfl, hb5⟩
       rw [HDF.out]
       have HI5 := Lib.hid (HI4.out.ext hb5)
       have HX5 := Lib.hid (HX4.out.ext hb5)
       have HN5 := Lib.hid (HN4.out.ext hb5)
       have HL5 := Lib.hid (HL4.out.below hb5 hB4)
       clear hb5 HI4 HX4 HN4 HP4 HOK HL4 hB4 HI3 HX3 HN3
       obtain ⟨z1, r1⟩ := HX5.out
       obtain ⟨bi, oi, ci, ⟨ai, hai, hci1, hci2, hai2⟩, hli, hzi, hcci⟩ := HL5.out.1
       obtain rfl : a1 = ai := by cases hai; rfl
       have HCI5 := Lib.hid hcci
       have HB5 := Lib.hid HI5.out.1
       have hmm2 : Hid (bm ≠ m ∧ bm ≠ m + 1 ∧ B ≤ w5.heap.size ∧ B ≤ bm) := Lib.hid (by have := HI5.out.2.2.2.2.2; have := HI5.out.1.size; refine ⟨?_, ?_, ?_, ?_⟩ <;> omega)
       clear hcci hai hzi hci1 hci2
       go_wp2
       go_loopw [74] (fun i W => ∃ j : Nat, j ≤ d.ins.length ∧ i = .int .i64 j ∧ SetMap W bm (goneL f k ++ d.ins.take j) ∧ w5.grownBy W (some bm)) (fun i _ => d.ins.length - (intOf i).toNat)
       case atStart => exact ⟨0, by omega, rfl, by simpa using HI5.out.2.2.1, grown_refl _ _⟩
       case round =>
        obtain ⟨j, hj, rfl, hsj, hgj⟩ := hrel
        have HSJ := Lib.hid hsj
        have HGJ := Lib.hid hgj
        have HIJ := Lib.hid (HI5.out.go hsj hgj)
        have HXJ := Lib.hid (HX5.out.grown hgj (by have := hmm2.out; simp; omega))
        have HNJ := Lib.hid (HN5.out.grown hgj (by have := hmm2.out; simp; omega))
        have HBJ : Hid (Below B w5 wr) := Lib.hid ((Below.refl B w5).grown hgj hmm2.out.2.2.1 (fun q hq => by cases hq; exact hmm2.out.2.2.2))
        clear hsj hgj
        by_cases hjl : j < d.ins.length
        ·obtain rfl : a1 = some ⟨bi, oi, none⟩ := by rcases hai2 with ha | ha; exact ha; omega
         have hcell := (HBJ.out.cell (p := ⟨bi, oi + j, none⟩) (HCI5.out j hjl).1).trans (HCI5.out j hjl).2
         have hbgc := HIJ.out.2.2.2.1.2 0
         have HTS := Lib.hid (List.take_succ_eq_append_getElem hjl)
         clear z1 r1
         go_wp2_with (at_mapUpdate; refine wpList_update_set rfl _ _ _ rfl Tryz.underlying98 Tryz.underlying3 rfl HSJ.out rfl rfl ?_; intro w8 hs8 hg8 hz8; have HS8 := Lib.hid hs8; have HG8 := Lib.hid hg8; clear hs8 hg8 hz8)
         go_roundw
         case rel => exact ⟨j + 1, by omega, by go_num, by rw [HTS.out, ← nth_eq_getElem hjl, ← List.append_assoc]; exact HS8.out, grown_trans HGJ.out HG8.out⟩
         case measure => simp [intOf]; omega
        ·obtain rfl : j = d.ins.length := by omega
         clear z1 r1
         obtain ⟨z1, r1⟩ := HXJ.out
         obtain ⟨z2, r2⟩ := HNJ.out
         have HIK : Hid (CheckInv w wr bm bg bc #[.int .i64 f.senders, .slice (some ⟨b, off, none⟩) f.lots.length cap] (goneL f (k + 1)) (beforeI f (k + 1))) := Lib.hid (by have := HIJ.out; rw [List.take_of_length_le (Nat.le_refl _), ← HGS.out] at this; exact this)
         have HLR := Lib.hid (HL5.out.below HBJ.out (Nat.le_refl _))
         have hBr : B ≤ wr.heap.size := by have := HIK.out.1.size; omega
         have HOK2 : Hid (OkFn Tryz.prog 62 #[.pointer (some ⟨m + 1, 0, none⟩)] wr (outB d.ins.length)) :=
          Lib.hid ⟨enters_of Tryz.func62 (by kernel_rfl) rfl, fun W x hW hx =>
           (out_any x d.ins.length (m + 1) W (HNJ.out.ext hW)).mono (by rintro e w' ⟨rfl, rfl⟩; exact ⟨rfl, Below.refl _ _⟩)⟩
         have HLK : Hid (lotB f k = (if d.known then decide (d.perm.length = d.ins.length) && (diffB d.perm && allB d.perm (outB d.ins.length)) else decide (d.perm.length = 0))) := by
          refine Lib.hid ?_
          rw [HLB.out, HDF.out, decide_eq_true (by have := HN0.out; omega : d.ins.length ≠ 0)]; rfl
         have HBAD : Hid (lotB f k = false → checkE f = 250) := Lib.hid fun h => by
          rw [HT.out, lotsB_false (k := k + 1) (m := f.lots.length) (by rw [HLS.out, h]; simp) (by omega)]; rfl
         have HGOOD : Hid (lotB f k = true → lotsB f (k + 1) = true) := Lib.hid fun h => by rw [HLS.out, HN.out, h]; rfl
         cases hkn : d.known
         ·have HKN := Lib.hid hkn
          rw [hkn] at r1
          by_cases hp0 : d.perm.length = 0
          ·have hp0' : decide (0 < d.perm.length) = false := decide_eq_false (by omega)
           have HG2 := Lib.hid (HGOOD.out (by rw [HLK.out, hkn, decide_eq_true hp0]; rfl))
           clear hp0 hkn
           go_wp2
           go_roundw
           case rel => exact ⟨k + 1, by omega, by go_num, HG2.out, HIK.out⟩
           case measure => simp [intOf]; omega
          ·have hp0' : decide (0 < d.perm.length) = true := decide_eq_true (by omega)
           have HG2 := Lib.hid (HBAD.out (by rw [HLK.out, hkn, decide_eq_false hp0]; rfl))
           clear hp0 hkn
           go_wp2
           go_ret
           exact ⟨by rw [HG2.out]; rfl, HIK.out.1⟩
         ·have HKN := Lib.hid hkn
          rw [hkn] at r1
          by_cases hp0 : d.perm.length = d.ins.length
          ·have hp0' : ((d.perm.length : Int) != (d.ins.length : Int)) = false := by rw [hp0]; simp
           have HPE := Lib.hid hp0
           cases hdp : (diffB d.perm && allB d.perm (outB d.ins.length))
           ·have HDP := Lib.hid hdp
            have HG2 := Lib.hid (HBAD.out (by rw [HLK.out, hkn, hdp]; simp))
            clear hp0 hkn hdp
            go_wp2_with (go_at_call 61; refine (fdifferent_any B wr _ d.perm _ _ _ HLR.out.2.2 hBr HOK2.out).mono ?_; rintro e w9 ⟨rfl, hb9⟩; have HB9 := Lib.hid hb9; clear hb9; rw [HDP.out])
            go_ret
            exact ⟨by rw [HG2.out]; rfl, HIK.out.1.trans (HB9.out.mono HIK.out.1.size)⟩
           ·have HDP := Lib.hid hdp
            have HG2 := Lib.hid (HGOOD.out (by rw [HLK.out, hkn, hdp, decide_eq_true hp0]; rfl))
            clear hp0 hkn hdp
            go_wp2_with (go_at_call 61; refine (fdifferent_any B wr _ d.perm _ _ _ HLR.out.2.2 hBr HOK2.out).mono ?_; rintro e w9 ⟨rfl, hb9⟩; have HB9 := Lib.hid hb9; have HX9 := Lib.hid (HXJ.out.ext hb9); obtain ⟨z9, r9⟩ := HX9.out; rw [HKN.out] at r9; clear hb9; rw [HDP.out])
            go_roundw
            case rel => exact ⟨k + 1, by omega, by go_num, HG2.out, HIK.out.ext HB9.out⟩
            case measure => simp [intOf]; omega
          ·have hp0' : ((d.perm.length : Int) != (d.ins.length : Int)) = true := by simp; omega
           have HG2 := Lib.hid (HBAD.out (by rw [HLK.out, hkn, decide_eq_false hp0]; simp))
           clear hp0 hkn
           go_wp2
           go_ret
           exact ⟨by rw [HG2.out]; rfl, HIK.out.1⟩
    ·obtain rfl : k = f.lots.length := by omega
     have HT2 : Hid (checkE f = 0) := Lib.hid (by rw [HT.out, HN.out]; rfl)
     go_wp2
     go_ret
     exact ⟨by rw [HT2.out]; rfl, HCI.out.1⟩
end Go.Proofs.YteiaeaciaglmgaaGreat
namespace Go.Proofs.YteiaeaciaglmgaaGreat
open Go.RowKit
/-- between w and w' only blocks in X, and new ones, have turned -/
structure Turned (X : Nat → Prop) (w w' : World) : Prop where
 os : w'.os = w.os
 tape : w'.tape = w.tape
 output : w'.output = w.output
 size : w.heap.size ≤ w'.heap.size
 block : ∀ k, k < w.heap.size → ¬ X k → w'.heap[k]? = w.heap[k]?
theorem Turned.refl (X : Nat → Prop) (w : World) : Turned X w w := ⟨rfl, rfl, rfl, Nat.le_refl _, fun _ _ _ => rfl⟩
theorem Turned.trans {X : Nat → Prop} {a b c : World} (h : Turned X a b) (k : Turned X b c) : Turned X a c :=
 ⟨k.os.trans h.os, k.tape.trans h.tape, k.output.trans h.output, Nat.le_trans h.size k.size, fun i hi hx => (k.block i (Nat.lt_of_lt_of_le hi h.size) hx).trans (h.block i hi hx)⟩
theorem Turned.mono {X Y : Nat → Prop} {a b : World} (h : Turned X a b) (hx : ∀ k, k < a.heap.size → X k → Y k) : Turned Y a b :=
 ⟨h.os, h.tape, h.output, h.size, fun i hi hy => h.block i hi (fun hx' => hy (hx i hi hx'))⟩
theorem Turned.of_below {X : Nat → Prop} {a b : World} (h : Below a.heap.size a b) : Turned X a b := ⟨h.os, h.tape, h.output, h.size, fun k hk _ => h.block k hk⟩
theorem Turned.of_grown {X : Nat → Prop} {a b : World} {row : Option Nat} (h : a.grownBy b row) (hx : ∀ k, row = some k → X k) : Turned X a b :=
 ⟨h.os, h.tape, h.output, h.size, fun k hk hn => h.block k hk (fun e => hn (hx k e.symm))⟩
theorem Turned.below {X : Nat → Prop} {a b : World} {B : Nat} (h : Turned X a b) (hB : B ≤ a.heap.size) (hx : ∀ k, k < B → ¬ X k) : Below B a b :=
 ⟨h.os, h.tape, h.output, h.size, fun k hk => h.block k (by omega) (hx k hk)⟩
theorem Turned.putObj {X : Nat → Prop} (w : World) (r : Nat) (o : Obj) (hx : X r) : Turned X w (w.putObj r o) :=
 .of_grown (grownBy_putObj' w r o) (fun k e => by cases e; exact hx)
theorem Turned.cell {X : Nat → Prop} {a b : World} (h : Turned X a b) {p : Addr} (hp : p.block < a.heap.size) (hx : ¬ X p.block) : b.cell? p = a.cell? p := World.cell?_of_block (h.block _ hp hx)
theorem Box.turned {X : Nat → Prop} {a b : World} {k : Nat} {c : Array Value} (h : Box a k c) (ht : Turned X a b) (hx : ¬ X k) : Box b k c :=
 ⟨Nat.lt_of_lt_of_le h.1 ht.size, fun i => (ht.cell (p := ⟨k, i, none⟩) h.1 hx).trans (h.2 i)⟩
theorem Cell1.turned {X : Nat → Prop} {a b : World} {k : Nat} {v : Value} (h : Cell1 a k v) (ht : Turned X a b) (hx : ¬ X k) : Cell1 b k v := by
 have hl := h.lt
 obtain ⟨t, h⟩ := h
 exact ⟨t, (ht.block k hl hx).trans h⟩
theorem SetMap.turned {X : Nat → Prop} {a b : World} {k : Nat} {S : List Int} (h : SetMap a k S) (ht : Turned X a b) (hx : ¬ X k) : SetMap b k S := by
 obtain ⟨l, ⟨es, c, h1, h2⟩, h3⟩ := h
 exact ⟨l, ⟨es, c, (ht.block k (Array.getElem?_eq_some_iff.1 h1).1 hx).trans h1, h2⟩, h3⟩
/-- what an iterator value promises: its n elements are handed to yield in order; D: the blocks that it leans on -/
def IterC (P : Program) (gf : FuncId) (lb : Array Value) (n : Nat) (enc : Nat → World → Array Value → Prop) (D : Nat → Prop) (w : World) : Prop :=
 ∀ (l : Nat) (ob : Nat → Prop) (W : World) (J Jx : Nat → Nat → World → Prop),
  Turned (fun k => ¬ D k) w W → (∀ k, ob k → k < W.heap.size ∧ ¬ D k) →
  (∀ s i A B, W.heap.size ≤ s → J s i A → Turned (fun k => W.heap.size ≤ k ∧ k < s) A B → J s i B) →
  (∀ s i A B, W.heap.size ≤ s → Jx s i A → Turned (fun k => W.heap.size ≤ k ∧ k < s) A B → Jx s i B) →
  (∀ s W1, W.heap.size ≤ s → s ≤ W1.heap.size → Below W.heap.size W W1 → J s 0 W1) →
  (∀ s i W1 args, W.heap.size ≤ s → s ≤ W1.heap.size → i < n → J s i W1 → enc i W1 args → YieldAt Fence.wide 9 P l args W1 fun e W' =>
   (e = .returned (.bool true) ∧ J s (i + 1) W' ∧ Turned (fun k => ob k ∨ s ≤ k) W1 W') ∨ (e = .returned (.bool false) ∧ Jx s i W' ∧ Turned (fun k => ob k ∨ s ≤ k) W1 W')) →
  CallsIn Fence.wide 10 P gf (#[.func (.yield l) #[] #[]] ++ lb) W fun e W' => (∃ v, e = .returned v) ∧ ∃ s, W.heap.size ≤ s ∧ s ≤ W'.heap.size ∧ (J s n W' ∨ ∃ i, i < n ∧ Jx s i W')
/-- how a round may end -/
def rndPost (ob : Nat → Prop) (I : Nat → Nat → World → Prop) (Ix : Code → Nat → Nat → World → Prop) (s i : Nat) (W : World) : Exit → Act → World → Prop
 | .normal, _, W' => Turned (fun k => ob k ∨ s ≤ k) W W' ∧ I s (i + 1) W'
 | .ret, _, W' => Turned (fun k => ob k ∨ s ≤ k) W W' ∧ Ix .ret s i W'
 | .exit id, _, W' => Turned (fun k => ob k ∨ s ≤ k) W W' ∧ Ix (.exit id) s i W'
 | .goto t, _, W' => Turned (fun k => ob k ∨ s ≤ k) W W' ∧ Ix (.goto t) s i W'
 | .panic _, _, _ => False
 | .outgrown, _, _ => False
/-- the rule for a loop over a function -/
theorem range_law {P : Program} {g : Operand} {ps : Array Tmp} {assign body : Code} {Q : Exit → Act → World → Prop} {a : Act} {w : World}
  {gf : FuncId} {lb : Array Value} (hg : a.eval g = .func (.func gf) #[] lb) (eg : Enters P gf) {n : Nat} {enc : Nat → World → Array Value → Prop} {D : Nat → Prop} {w0 : World} (hseq : IterC P gf lb n enc D w0)
  (hw0 : Turned (fun k => ¬ D k) w0 w) (hD : ∀ k, D k → k < w0.heap.size) (ob : Nat → Prop) (hob : ∀ k, ob k → k < w.heap.size ∧ ¬ D k)
  (hps : ∀ i W args, enc i W args → args.size = ps.size) (henc : ∀ i A B args, enc i A args → Turned (fun k => w.heap.size ≤ k ∧ k < w.heap.size + 2) A B → enc i B args)
  (I : Nat → Nat → World → Prop) (Ix : Code → Nat → Nat → World → Prop)
  (hI : ∀ s i A B, w.heap.size ≤ s → I s i A → Turned (fun k => w.heap.size ≤ k ∧ k < s) A B → I s i B)
  (hIx : ∀ c s i A B, w.heap.size ≤ s → Ix c s i A → Turned (fun k => w.heap.size ≤ k ∧ k < s) A B → Ix c s i B)
  (h0 : ∀ s W1, w.heap.size ≤ s → s ≤ W1.heap.size → Below w.heap.size w W1 → I s 0 W1)
  (hround : ∀ (l s i : Nat) (W : World) (args : Array Value), w.heap.size + 2 ≤ s → s ≤ W.heap.size → i < n → I s i W → enc i W args →
   assign.wpIn (Fence.wide.inRound l) 9 P (Exit.then (fun a₁ W₁ => Below W.heap.size W W₁ ∧ ∀ W₂, Turned (fun k => w.heap.size ≤ k ∧ k < w.heap.size + 2) W₁ W₂ → body.wpIn (Fence.wide.inRound l) 9 P (rndPost ob I Ix s i W₂) a₁ W₂) (fun _ _ _ => False)) { tmps := (ps.zip args).foldl (fun t (p, v) => t.setIfInBounds p v) a.tmps, defers := [] } W)
  (hdone : ∀ (d s : Nat) (W : World), w.heap.size ≤ d → d < s → s ≤ W.heap.size → I s n W → W.heap[d]? = some (.deferred (some [])) → Q .normal { a with defers := { target := .collected d, args := #[] } :: a.defers } W)
  (hstop : ∀ (d s i : Nat) (c : Code) (W : World), w.heap.size ≤ d → d < s → s ≤ W.heap.size → i < n → Ix c s i W → W.heap[d]? = some (.deferred (some [])) → c.wpIn Fence.wide 11 P Q { a with defers := { target := .collected d, args := #[] } :: a.defers } W) :
  (Code.rangeFunc g ps assign body).wpIn Fence.wide 11 P Q a w := by
 refine wpIn_rangeFunc ?_
 intro fn hfn
 obtain ⟨rec, hrec⟩ : ∃ rec : LoopState → Option Code → Loop, rec = fun st pe => { state := st, pending := pe, fn, tmps := a.tmps, params := ps, assign, body, defers := w.heap.size } := ⟨_, rfl⟩
 obtain ⟨W1, hW1⟩ : ∃ W1, (w.alloc (.deferred (some []))).alloc (.loop (rec .ready none)) = W1 := ⟨_, rfl⟩
 have hL1 : W1.heap[w.heap.size + 1]? = some (.loop (rec .ready none)) := by
  rw [← hW1]; have := World.alloc_heap_new (w.alloc (.deferred (some []))) (.loop (rec .ready none)); rwa [World.size_alloc] at this
 have hK1 : W1.heap[w.heap.size]? = some (.deferred (some [])) := by
  rw [← hW1]; exact (Below.heap_alloc _ _ _ (by simp)).trans (World.alloc_heap_new w _)
 have hb1 : Below w.heap.size w W1 := by
  rw [← hW1]; exact ((Below.refl _ w).alloc (Nat.le_refl _) _).alloc (by simp) _
 have hs1 : W1.heap.size = w.heap.size + 2 := by rw [← hW1]; simp
 refine ⟨w.heap.size + 1, [{ target := .collected w.heap.size, args := #[] }], W1, { target := .fn (.func gf) lb, args := #[.func (.yield (w.heap.size + 1)) #[] #[]] }, W1, gf,
  #[.func (.yield (w.heap.size + 1)) #[] #[]] ++ lb, W1, ?_, ?_, ?_, ?_, fun _ => by omega, ?_⟩
 ·rw [← hW1, hrec]; exact run_enterLoop_outer _ _ _ _ _
 ·simp only [resolve, hg]
  simp [go_sem]
 ·intro f' _; trivial
 ·simp [invoke, go_sem]; exact eg _ _
 ·
  have stay : ∀ {s : Nat} {A B : World}, W1.heap.size ≤ s → Turned (fun k => W1.heap.size ≤ k ∧ k < s) A B → ∀ {k : Nat} {o : Obj}, k < w.heap.size + 2 → A.heap[k]? = some o → B.heap[k]? = some o := by
   intro s A B hs ht k o hk ho
   exact (ht.block k (Array.getElem?_eq_some_iff.1 ho).1 (by omega)).trans ho
  refine (hseq (w.heap.size + 1) (fun k => ob k ∨ k = w.heap.size ∨ k = w.heap.size + 1) W1
   (fun s i W => s ≤ W.heap.size ∧ I s i W ∧ W.heap[w.heap.size + 1]? = some (.loop (rec .ready none)) ∧ W.heap[w.heap.size]? = some (.deferred (some [])))
   (fun s i W => s ≤ W.heap.size ∧ ∃ c, Ix c s i W ∧ W.heap[w.heap.size + 1]? = some (.loop (rec .done (some c))) ∧ W.heap[w.heap.size]? = some (.deferred (some [])))
   (hw0.trans (Turned.of_below hb1))
   (fun k hk => by
    rcases hk with hk | rfl | rfl
    ·exact ⟨by have := (hob k hk).1; omega, (hob k hk).2⟩
    ·exact ⟨by omega, fun hd => by have := hD _ hd; have := hw0.size; omega⟩
    ·exact ⟨by omega, fun hd => by have := hD _ hd; have := hw0.size; omega⟩)
   (fun s i A B hs hj ht => ⟨Nat.le_trans hj.1 ht.size, hI s i A B (by omega) hj.2.1 (ht.mono fun k _ hk => ⟨by omega, hk.2⟩), stay hs ht (by omega) hj.2.2.1, stay hs ht (by omega) hj.2.2.2⟩)
   (fun s i A B hs hj ht => by
    obtain ⟨h, c, hc, hl, hk⟩ := hj
    exact ⟨Nat.le_trans h ht.size, c, hIx c s i A B (by omega) hc (ht.mono fun k _ hk => ⟨by omega, hk.2⟩), stay hs ht (by omega) hl, stay hs ht (by omega) hk⟩)
   (fun s W2 hs hs2 hb2 => ⟨hs2, h0 s W2 (by omega) hs2 (hb1.trans (hb2.mono hb1.size)), (hb2.block _ (by omega)).trans hL1, (hb2.block _ (by omega)).trans hK1⟩)
   ?_).mono ?_
  ·
   rintro s i W args hs hsW hi ⟨_, hiI, hl, hk⟩ hen
   have hlt : w.heap.size + 1 < W.heap.size := (Array.getElem?_eq_some_iff.1 hl).1
   have hy := run_yield (P := P) (args := args) hl (by rw [hrec]; exact hps i W args hen)
   rw [hrec] at hy
   have hrd := hround (w.heap.size + 1) s i W args (by omega) hsW hi hiI hen
   refine ⟨fn, _, assign, body, hy, roundIn_of_wpIn hfn (wpIn_mono hrd ?_)⟩
   rintro e a2 W2 hq
   cases e with
   | normal =>
    obtain ⟨hb2, hbody⟩ := hq
    have hl2 := (hb2.block _ hlt).trans hl
    have hk2 := (hb2.block _ (by omega)).trans hk
    have hlt2 : w.heap.size + 1 < W2.heap.size := (Array.getElem?_eq_some_iff.1 hl2).1
    have hbz : Turned (fun k => w.heap.size ≤ k ∧ k < w.heap.size + 2) W2 (W2.putObj (w.heap.size + 1) (.loop { rec .ready none with state := .busy })) := Turned.putObj _ _ _ ⟨by omega, by omega⟩
    have hl3 : (W2.putObj (w.heap.size + 1) (.loop { rec .ready none with state := .busy })).heap[w.heap.size + 1]? = some (.loop { rec .ready none with state := .busy }) := World.putObj_heap_same hlt2
    have hk3 : (W2.putObj (w.heap.size + 1) (.loop { rec .ready none with state := .busy })).heap[w.heap.size]? = some (.deferred (some [])) := (World.putObj_heap_other (by omega)).trans hk2
    refine ⟨_, run_beginRound hl2 (by rw [hrec]), wpIn_mono (hbody _ hbz) ?_⟩
    have fin : ∀ (jump : Option Code) (W3 : World), Turned (fun k => ob k ∨ s ≤ k) (W2.putObj (w.heap.size + 1) (.loop { rec .ready none with state := .busy })) W3 →
      (Instr.endRound (w.heap.size + 1) jump).run P W3 = .ok (.bool jump.isNone) (W3.putObj (w.heap.size + 1) (.loop (rec (if jump.isNone then .ready else .done) jump))) ∧
      (W3.putObj (w.heap.size + 1) (.loop (rec (if jump.isNone then .ready else .done) jump))).heap[w.heap.size + 1]? = some (.loop (rec (if jump.isNone then .ready else .done) jump)) ∧
      (W3.putObj (w.heap.size + 1) (.loop (rec (if jump.isNone then .ready else .done) jump))).heap[w.heap.size]? = some (.deferred (some [])) ∧
      Turned (fun k => (ob k ∨ k = w.heap.size ∨ k = w.heap.size + 1) ∨ s ≤ k) W (W3.putObj (w.heap.size + 1) (.loop (rec (if jump.isNone then .ready else .done) jump))) ∧
      Turned (fun k => w.heap.size ≤ k ∧ k < s) W3 (W3.putObj (w.heap.size + 1) (.loop (rec (if jump.isNone then .ready else .done) jump))) ∧ s ≤ W3.heap.size := fun jump W3 ht => by
     have nob : ∀ {k : Nat}, w.heap.size ≤ k → ¬ ob k := fun hk hx => by have := (hob _ hx).1; omega
     have q1 := (ht.block _ (by simpa using hlt2) (by rintro (h | h); exact nob (by omega) h; omega)).trans hl3
     have q2 := (ht.block _ (by simp; omega) (by rintro (h | h); exact nob (by omega) h; omega)).trans hk3
     have := run_endRound (P := P) jump q1
     have hz3 := ht.size
     simp at hz3
     have hz2 := hb2.size
     rw [hrec] at this ⊢
     refine ⟨this, World.putObj_heap_same (Array.getElem?_eq_some_iff.1 q1).1, (World.putObj_heap_other (by omega)).trans q2, ?_, Turned.putObj _ _ _ ⟨by omega, by omega⟩, by omega⟩
     have t1 : Turned (fun k => (ob k ∨ k = w.heap.size ∨ k = w.heap.size + 1) ∨ s ≤ k) W W2 := Turned.of_below hb2
     have t2 : Turned (fun k => (ob k ∨ k = w.heap.size ∨ k = w.heap.size + 1) ∨ s ≤ k) W2 (W2.putObj (w.heap.size + 1) (.loop { rec .ready none with state := .busy })) := hbz.mono fun k _ hk => by omega
     have t3 : Turned (fun k => (ob k ∨ k = w.heap.size ∨ k = w.heap.size + 1) ∨ s ≤ k) (W2.putObj (w.heap.size + 1) (.loop { rec .ready none with state := .busy })) W3 := ht.mono fun k _ hk => by
      rcases hk with hk | hk
      ·exact Or.inl (Or.inl hk)
      ·exact Or.inr hk
     rw [hrec] at t2 t3
     exact t1.trans (t2.trans (t3.trans (Turned.putObj _ _ _ (by omega))))
    rintro e a3 W3 hp
    cases e with
    | normal =>
     obtain ⟨ht3, hi3⟩ := hp
     obtain ⟨hr, hl4, hk4, ht4, ht5, hs3⟩ := fin none W3 ht3
     exact ⟨_, _, hr, .inl ⟨rfl, ⟨by simpa using hs3, hI s (i + 1) _ _ (by omega) hi3 ht5, hl4, hk4⟩, ht4⟩⟩
    | ret =>
     obtain ⟨ht3, hi3⟩ := hp
     obtain ⟨hr, hl4, hk4, ht4, ht5, hs3⟩ := fin (some .ret) W3 ht3
     exact ⟨_, _, hr, .inr ⟨rfl, ⟨by simpa using hs3, .ret, hIx _ s i _ _ (by omega) hi3 ht5, hl4, hk4⟩, ht4⟩⟩
    | exit id =>
     obtain ⟨ht3, hi3⟩ := hp
     obtain ⟨hr, hl4, hk4, ht4, ht5, hs3⟩ := fin (some (.exit id)) W3 ht3
     exact ⟨_, _, hr, .inr ⟨rfl, ⟨by simpa using hs3, .exit id, hIx _ s i _ _ (by omega) hi3 ht5, hl4, hk4⟩, ht4⟩⟩
    | goto t =>
     obtain ⟨ht3, hi3⟩ := hp
     obtain ⟨hr, hl4, hk4, ht4, ht5, hs3⟩ := fin (some (.goto t)) W3 ht3
     exact ⟨_, _, hr, .inr ⟨rfl, ⟨by simpa using hs3, .goto t, hIx _ s i _ _ (by omega) hi3 ht5, hl4, hk4⟩, ht4⟩⟩
    | panic ch => exact hp.elim
    | outgrown => exact hp.elim
   | ret => exact hq
   | exit id => exact hq
   | goto t => exact hq
   | panic ch => exact hq
   | outgrown => exact hq
  ·
   rintro e W2 ⟨⟨v, rfl⟩, s, hs, hsW, (⟨_, hi, hl, hk⟩ | ⟨i, hin, _, c, hi, hl, hk⟩)⟩
   ·have ht : Turned (fun k => w.heap.size ≤ k ∧ k < s) W2 (W2.putObj (w.heap.size + 1) (.loop { rec .ready none with state := .exhausted })) := Turned.putObj _ _ _ ⟨by omega, by omega⟩
    exact ⟨none, _, by have := run_endLoop (P := P) hl (by rw [hrec]; simp); rw [hrec] at this; exact this, hdone _ s _ (Nat.le_refl _) (by omega) (by simpa using hsW) (hI s n _ _ (by omega) hi (by rw [hrec] at ht; exact ht)) ((World.putObj_heap_other (by omega)).trans hk)⟩
   ·have ht : Turned (fun k => w.heap.size ≤ k ∧ k < s) W2 (W2.putObj (w.heap.size + 1) (.loop { rec .done (some c) with state := .exhausted })) := Turned.putObj _ _ _ ⟨by omega, by omega⟩
    exact ⟨some c, _, by have := run_endLoop (P := P) hl (by rw [hrec]; simp); rw [hrec] at this; exact this, hstop _ s i c _ (Nat.le_refl _) (by omega) (by simpa using hsW) hin (hIx c s i _ _ (by omega) hi (by rw [hrec] at ht; exact ht)) ((World.putObj_heap_other (by omega)).trans hk)⟩
end Go.Proofs.YteiaeaciaglmgaaGreat
namespace Go.Proofs.YteiaeaciaglmgaaGreat
open Go.RowKit
theorem OwnInts.turned {X : Nat → Prop} {B : Nat} {w w' : World} {v : Value} {xs : List Int} (h : OwnInts B w v xs) (ht : Turned X w w') (hx : ∀ k, B ≤ k → ¬ X k) : OwnInts B w' v xs := by
 refine ⟨⟨h.1.1, ?_⟩, h.2⟩
 rcases h.1.2 with hn | ⟨g, cap, cur, hv, hb, hg, rest⟩
 ·exact Or.inl hn
 ·exact Or.inr ⟨g, cap, cur, hv, hb, (ht.block g (Array.getElem?_eq_some_iff.1 hg).1 (hx g hb)).trans hg, rest⟩
section
variable {F : Fence} {nF : Nat} {P : Program} {w : World} {T K E : TypeId} {r : Nat} {ops : Array Oper} {rest : List Oper} {o : Oper} {a : Act} {Q : Exit → Act → World → Prop}
theorem wpListIn_want (hw : Region.wanted o (yielded ops a.tmps) = true)
  (h : ∀ K : Act → World → Prop, (∀ a w, wpListIn F nF P ops Q rest a w → K a w) → o.wpIn F nF P a w K Q) : wpListIn F nF P ops Q (o :: rest) a w :=
 wpListIn_step fun K hK => by rw [if_pos hw]; exact h K hK
theorem wpListIn_lookup_ints {l : AL} (hg : Region.wanted o (yielded ops a.tmps) = true) (m xo : Operand) (ok : Bool) (hop : o.op = Op.lookup T m xo ok)
  (hT : P.underlying T = some (.map K E)) (hK : P.underlying K = some (.int .i64)) {z : Value} (hz : (zeroValue E).run P w = .ok z w) (hm : a.eval m = .map (some r)) (h : IntMap w r l) {x : Int} (hx : a.eval xo = .int .i64 x)
  (hk : wpListIn F nF P ops Q rest (a.put o.dst (if ok then .tuple #[(alook l x).getD z, .bool (alook l x).isSome] else (alook l x).getD z)) w) : wpListIn F nF P ops Q (o :: rest) a w := by
 refine wpListIn_want hg fun K' hK' => ?_
 unfold Oper.wpIn
 refine ⟨by simp [Oper.about, hop], ?_⟩
 rw [Oper.semAt_plain F _ _ (by rw [hop]; intro c hc'; cases hc')]
 simp only [execOp, hop, hm, hx]
 simp [run_lookup_ints hT hK hz h x ok, Result.andThen]
 exact hK' _ _ hk
theorem wpListIn_update_ints {l : AL} (hg : Region.wanted o (yielded ops a.tmps) = true) (m xo vo : Operand) (hop : o.op = Op.mapUpdate T m xo vo)
  (hT : P.underlying T = some (.map K E)) (hK : P.underlying K = some (.int .i64)) (hm : a.eval m = .map (some r)) (h : IntMap w r l) {x : Int} {v : Value} (hx : a.eval xo = .int .i64 x) (hv : a.eval vo = v)
  (hk : ∀ w', IntMap w' r (aset l x v) → w.grownBy w' (some r) → w'.heap.size = w.heap.size → wpListIn F nF P ops Q rest (a.put o.dst undef) w') : wpListIn F nF P ops Q (o :: rest) a w := by
 refine wpListIn_want hg fun K' hK' => ?_
 obtain ⟨w', hrun, h1, h2, h3⟩ := run_update_ints hT hK h x v
 unfold Oper.wpIn
 refine ⟨by simp [Oper.about, hop], ?_⟩
 rw [Oper.semAt_plain F _ _ (by rw [hop]; intro c hc'; cases hc')]
 simp only [execOp, hop, hm, hx, hv]
 simp [hrun, Result.andThen]
 exact hK' _ _ (hk w' h1 h2 h3)
theorem wpListIn_lookup_set {S : List Int} (hg : Region.wanted o (yielded ops a.tmps) = true) (m xo : Operand) (hop : o.op = Op.lookup T m xo false)
  (hT : P.underlying T = some (.map K E)) (hK : P.underlying K = some (.int .i64)) (hz : (zeroValue E).run P w = .ok (.bool false) w) (hm : a.eval m = .map (some r)) (h : SetMap w r S) {x : Int} (hx : a.eval xo = .int .i64 x)
  (hk : wpListIn F nF P ops Q rest (a.put o.dst (.bool (hasB S x))) w) : wpListIn F nF P ops Q (o :: rest) a w := by
 obtain ⟨l, h1, h2⟩ := h
 refine wpListIn_lookup_ints hg m xo false hop hT hK hz hm h1 hx ?_
 simp only [Bool.false_eq_true, if_false, h2]
 exact hk
theorem wpListIn_update_set {S : List Int} (hg : Region.wanted o (yielded ops a.tmps) = true) (m xo vo : Operand) (hop : o.op = Op.mapUpdate T m xo vo)
  (hT : P.underlying T = some (.map K E)) (hK : P.underlying K = some (.int .i64)) (hm : a.eval m = .map (some r)) (h : SetMap w r S) {x : Int} (hx : a.eval xo = .int .i64 x) (hv : a.eval vo = .bool true)
  (hk : ∀ w', SetMap w' r (S ++ [x]) → w.grownBy w' (some r) → w'.heap.size = w.heap.size → wpListIn F nF P ops Q rest (a.put o.dst undef) w') : wpListIn F nF P ops Q (o :: rest) a w := by
 obtain ⟨l, h1, h2⟩ := h
 refine wpListIn_update_ints hg m xo vo hop hT hK hm h1 hx hv fun w' q1 q2 q3 => hk w' ⟨_, q1, fun y => ?_⟩ q2 q3
 rw [alook_aset, hasB_snoc]
 by_cases e : y = x
 ·subst e; simp
 ·have e2 : (x == y) = false := by simp; exact fun h => e h.symm
  rw [if_neg e, e2, Bool.or_false]; exact h2 y
end
/-- append(s, n), in a loop over a function -/
theorem append_intIn {F : Fence} {nF : Nat} {ops : Array Oper} {rest : List Oper} {o : Oper} {a : Act} {w : World} {Q : Exit → Act → World → Prop} (hgd : o.guard = none) (s x : Operand)
  (ho : o.op = .call { callee := .builtin .append, args := #[s, x], argTypes := #[25, 25] })
  {B : Nat} {v : Value} {xs : List Int} {n : Int} {g c : Nat} (hs : a.eval s = v) (hown : OwnInts B w v xs) (hx : a.eval x = .slice (some ⟨g, 0, none⟩) 1 c)
  (hg : w.cell? ⟨g, 0, none⟩ = some (.int .i64 n)) (hn : I64 n) (hlen : xs.length + 1 ≤ 17592186043904) (hB : B ≤ w.heap.size)
  (h : ∀ v' w', OwnInts B w' v' (xs ++ [n]) → w.grownBy w' v.ownBlock → wpListIn F nF Tryz.prog ops Q rest (a.put o.dst v') w') : wpListIn F nF Tryz.prog ops Q (o :: rest) a w := by
 obtain ⟨i0, hi, hz0, hz1, hz2⟩ := info_parts int_info
 refine wpListIn_append_own w hgd s x 25 ho B 3 i0 (.int .i64 0) 1 8 Tryz.underlying25 hi hz0 hz1 hz2 rfl (by decide) v xs.length (xs.map (Value.int .i64)) hs hown.1 ⟨g, 0, none⟩ 1 c [.int .i64 n] hx rfl ?_ ?_ ?_ ?_ hB ?_
 ·intro j u hj
  match j, hj with
  | 0, hj => simp at hj; subst hj; simpa [Addr.add] using hg
 ·intro u hu; simp at hu; subst hu; rfl
 ·unfold maxLen; omega
 ·omega
 ·intro v' w' h1 h2 _
  refine h v' w' ⟨by simpa using h1, by simpa using hlen, ?_⟩ h2
  intro y hy
  rcases List.mem_append.1 hy with hy | hy
  ·exact hown.2.2 y hy
  ·simp at hy; subst hy; exact hn
end Go.Proofs.YteiaeaciaglmgaaGreat
namespace Go.Proofs.YteiaeaciaglmgaaGreat
open Go.RowKit
attribute [local go_sem] Oper.semAt_some
theorem fends_any (w : World) (vs vl : Value) (f : Flow) (B : Nat) (hf : IsFlow B w vs vl f) :
  Calls Tryz.prog 69 #[.agg #[vs, vl]] w fun e w' => e = .returned (.func (.func 90) #[] #[.pointer (some ⟨w.heap.size, 0, none⟩)]) ∧ w' = w.alloc (.cells #[vs, vl] 24) := by
 obtain ⟨rfl, _, hl⟩ := hf
 obtain ⟨b, off, cap, ⟨a, rfl, _⟩, _⟩ := hl
 have hmf := @run_makeFunc_any Tryz.prog
 go_enter Tryz.func69, Tryz.ntmps69
 go_wp2
 go_ret
 exact ⟨rfl, rfl⟩
theorem endsTo_prefix (f : Flow) {k m : Nat} (h : k ≤ m) : ∃ t, endsTo f m = endsTo f k ++ t := by
 induction h with
 | refl => exact ⟨[], by simp⟩
 | @step m _ ih =>
  obtain ⟨t, ht⟩ := ih
  simp only [endsTo]
  split
  ·exact ⟨t, ht⟩
  ·exact ⟨t ++ [(m : Int)], by rw [ht, List.append_assoc]⟩
theorem endsTo_at (f : Flow) {k m : Nat} (h : k < m) (hg : goneB f k f.lots.length = false) : nth (endsTo f m) (endsTo f k).length = k ∧ (endsTo f k).length < (endsTo f m).length := by
 obtain ⟨t, ht⟩ := endsTo_prefix f (show k + 1 ≤ m from h)
 have e : endsTo f (k + 1) = endsTo f k ++ [(k : Int)] := by simp [endsTo, hg]
 rw [e] at ht
 rw [ht]
 constructor
 ·unfold nth; simp
 ·simp
set_option maxHeartbeats 2000000 in
set_option maxRecDepth 100000 in
/-- the iterator of flows.ends -/
theorem fends_iter (B bf : Nat) (w : World) (vs vl : Value) (f : Flow) (hf : IsFlow B w vs vl f) (hB : B ≤ w.heap.size) (hx : Box w bf #[vs, vl]) (h0 : checkE f = 0) :
  IterC Tryz.prog 90 #[.pointer (some ⟨bf, 0, none⟩)] (endsL f).length (fun i _ args => args = #[.int .i64 (nth (endsL f) i)]) (fun k => k < B ∨ k = bf) w := by
 intro l ob W J Jx hwW hob hJ hJx hst hY
 have hBw : Below B w W := hwW.below hB (fun k hk hn => hn (Or.inl hk))
 have hfW := hf.below hBw (Nat.le_refl _)
 have hBW : B ≤ W.heap.size := Nat.le_trans hB hwW.size
 have hxW := hx.turned hwW (fun hn => hn (Or.inr rfl))
 clear hf hx hwW hBw
 have HF := Lib.hid hfW
 have HX := Lib.hid hxW
 have HOB := Lib.hid hob
 have HJ := Lib.hid hJ
 have HJX := Lib.hid hJx
 have HST := Lib.hid hst
 have HY := Lib.hid hY
 have HK := Lib.hid (checkE_ok h0)
 have HI := Lib.hid (fun k (hk : k < f.lots.length) => ok_ins h0 hk)
 clear hob hJ hJx hst hY hxW h0
 obtain ⟨rfl, ⟨hs1, hs2⟩, hl⟩ := hfW
 obtain ⟨b, off, cap, ⟨a, rfl, hcap, hmax, ha⟩, hlen, hc⟩ := hl
 have HC := Lib.hid hc
 clear hc
 obtain ⟨zx, rx⟩ := HX.out
 have hmm := @run_makeMap Tryz.prog
 refine callsIn_of_wp Tryz.func90 rfl trivial ?_ rfl
 simp only [Tryz.ntmps90, List.size_toArray, List.length_cons, List.length_nil, Nat.reduceAdd, Nat.reduceSub, Array.replicate_succ, Array.replicate_zero, List.push_toArray, List.append_toArray, List.nil_append, List.cons_append]
 gi_wp2
 gi_loopw [4, 16] (fun m i wr => ∃ k : Nat, k ≤ f.lots.length ∧ i = .int .i64 k ∧ m = .int .i64 (beforeI f k) ∧ SetMap wr W.heap.size (goneL f k) ∧ Below W.heap.size W wr) (fun _ i _ => f.lots.length - (intOf i).toNat)
 case atStart => exact ⟨0, by omega, rfl, rfl, SetMap.made W, box_below' _ _⟩
 case round =>
  obtain ⟨k, hk, rfl, rfl, hs, hbr⟩ := hrel
  have HS := Lib.hid hs
  have HBR := Lib.hid hbr
  clear hs hbr
  by_cases hlt : k < f.lots.length
  ·obtain rfl : a = some ⟨b, off, none⟩ := by rcases ha with ha | ha; exact ha; omega
   obtain ⟨vi, vk, vp, ⟨hb, c1⟩, ⟨_, c2⟩, ⟨_, c3⟩, hlot⟩ := HC.out k hlt
   have HLT := Lib.hid hlot
   obtain ⟨⟨b1, off1, cap1, ⟨a1, rfl, hc1, hm1, hai⟩, hl1, _, hcc⟩, rfl, ⟨b2, off2, cap2, ⟨a2, rfl, hc2, _⟩, hl2, _⟩⟩ := hlot
   have HCC := Lib.hid hcc
   have q1 := (HBR.out.cell (p := ⟨b, off + k * 3, none⟩) (by show b < _; omega)).trans c1
   have q2 := (HBR.out.cell (p := ⟨b, off + k * 3 + 1, none⟩) (by show b < _; omega)).trans c2
   have q3 := (HBR.out.cell (p := ⟨b, off + k * 3 + 2, none⟩) (by show b < _; omega)).trans c3
   obtain ⟨g1, g2, g3⟩ := HI.out k hlt
   have HBS : Hid (beforeI f (k + 1) = beforeI f k + (lotAt f.lots k).ins.length) := Lib.hid rfl
   have HGS : Hid (goneL f (k + 1) = goneL f k ++ (lotAt f.lots k).ins) := Lib.hid rfl
   obtain ⟨d, hd⟩ : ∃ d, lotAt f.lots k = d := ⟨_, rfl⟩
   rw [hd] at q1 q2 q3 HBS HGS hl1 hl2 hc1 hc2 HCC g1 hai
   clear hd c1 c2 c3 hcc HLT
   gi_wp2
   have HS2 := Lib.hid (HS.out.alloc (.cells #[.slice a1 d.ins.length cap1, .bool d.known, .slice a2 d.perm.length cap2] 64))
   have HB2 := Lib.hid (HBR.out.alloc (HBR.out.size) (.cells #[.slice a1 d.ins.length cap1, .bool d.known, .slice a2 d.perm.length cap2] 64))
   obtain ⟨w2, hw2⟩ : ∃ w2, wr.alloc (.cells #[.slice a1 d.ins.length cap1, .bool d.known, .slice a2 d.perm.length cap2] 64) = w2 := ⟨_, rfl⟩
   rw [hw2] at HS2 HB2 ⊢
   clear hw2 q1 q2 q3
   gi_loopw [28] (fun i Wj => ∃ j : Nat, j ≤ d.ins.length ∧ i = .int .i64 j ∧ SetMap Wj W.heap.size (goneL f k ++ d.ins.take j) ∧ w2.grownBy Wj (some W.heap.size)) (fun i _ => d.ins.length - (intOf i).toNat)
   case atStart => exact ⟨0, by omega, rfl, by simpa using HS2.out, grown_refl _ _⟩
   case round =>
    obtain ⟨j, hj, rfl, hsj, hgj⟩ := hrel
    have HSJ := Lib.hid hsj
    have HGJ := Lib.hid hgj
    have HBJ : Hid (Below W.heap.size W wr) := Lib.hid (HB2.out.grown hgj HB2.out.size (fun q hq => by cases hq; exact Nat.le_refl _))
    clear hsj hgj
    by_cases hjl : j < d.ins.length
    ·obtain rfl : a1 = some ⟨b1, off1, none⟩ := by rcases hai with ha | ha; exact ha; omega
     have hcell := (HBJ.out.cell (p := ⟨b1, off1 + j, none⟩) (by have := (HCC.out j hjl).1; show b1 < _; omega)).trans (HCC.out j hjl).2
     have HTS := Lib.hid (List.take_succ_eq_append_getElem hjl)
     gi_wp2_with (gi_at_mapUpdate; refine wpListIn_update_set rfl _ _ _ rfl Tryz.underlying98 Tryz.underlying3 rfl HSJ.out rfl rfl ?_; intro w8 hs8 hg8 hz8; have HS8 := Lib.hid hs8; have HG8 := Lib.hid hg8; clear hs8 hg8 hz8)
     go_roundw
     case rel => exact ⟨j + 1, by omega, by go_num, by rw [HTS.out, ← nth_eq_getElem hjl, ← List.append_assoc]; exact HS8.out, grown_trans HGJ.out HG8.out⟩
     case measure => simp [intOf]; omega
    ·obtain rfl : j = d.ins.length := by omega
     gi_wp2
     go_roundw
     case rel => exact ⟨k + 1, by omega, by go_num, by rw [HBS.out], by rw [HGS.out]; have := HSJ.out; rw [List.take_of_length_le (Nat.le_refl _)] at this; exact this, HBJ.out⟩
     case measure => simp [intOf]; omega
  ·obtain rfl : k = f.lots.length := by omega
   have HN : Hid (beforeI f f.lots.length = ((beforeI f f.lots.length).toNat : Int)) := Lib.hid (by have := beforeI_mono (f := f) (Nat.zero_le f.lots.length); have := HK.out; simp only [beforeI] at *; omega)
   obtain ⟨n, hn⟩ : ∃ n, (beforeI f f.lots.length).toNat = n := ⟨_, rfl⟩
   rw [hn] at HN
   have hn5 : n ≤ 50000 := by have := HN.out; have := HK.out; omega
   have HL : Hid (endsL f = endsTo f n) := Lib.hid (by unfold endsL; rw [hn])
   clear hn
   rw [HN.out]
   gi_wp2
   obtain ⟨w9, rfl⟩ : ∃ w9 : World, w9 = wr := ⟨_, rfl⟩
   gi_loopw [37] (fun i W2 => ∃ k : Nat, k ≤ n ∧ i = .int .i64 k ∧ SetMap W2 W.heap.size (goneL f f.lots.length) ∧ w9.heap.size ≤ W2.heap.size ∧ J w9.heap.size (endsTo f k).length W2) (fun i _ => n - (intOf i).toNat)
   case atStart => exact ⟨0, by omega, rfl, HS.out, Nat.le_refl _, HST.out _ _ HBR.out.size (Nat.le_refl _) HBR.out⟩
   case round =>
    obtain ⟨k, hk, rfl, hs, hz, hj⟩ := hrel
    have HS3 := Lib.hid hs
    have HJ3 := Lib.hid hj
    have HZ3 := Lib.hid hz
    clear hs hj hz
    by_cases hlt : k < n
    ·cases hg : hasB (goneL f f.lots.length) k
     ·have HG := Lib.hid hg
      have hg' : goneB f k f.lots.length = false := by rw [← hasB_goneL]; exact hg
      have HSt : Hid (endsTo f (k + 1) = endsTo f k ++ [(k : Int)]) := Lib.hid (by simp [endsTo, hg'])
      obtain ⟨e1, e2⟩ := endsTo_at f hlt hg'
      rw [← HL.out] at e1 e2
      have HYY := Lib.hid (HY.out w9.heap.size (endsTo f k).length wr _ HBR.out.size HZ3.out e2 HJ3.out rfl)
      have HEnd : Hid ((endsTo f (k + 1)).length = (endsTo f k).length + 1) := Lib.hid (by rw [HSt.out]; simp)
      rw [e1] at HYY
      obtain ⟨fn, tmps, assign, body, hy, hR⟩ := HYY.out
      have HR := Lib.hid hR
      have HE2 := Lib.hid e2
      clear hg hg' e1 e2 hR
      have h1 : Fence.wide.depth.isSome = true → 1 ≤ 10 := fun _ => by omega
      gi_wp2_with (gi_at_lookup; refine wpListIn_lookup_set rfl _ _ rfl Tryz.underlying98 Tryz.underlying3 (Tryz.zeroValue4 _) rfl HS3.out rfl ?_; rw [HG.out])
      refine HR.out.mono ?_
      have HOW : Hid (∀ k, ob k ∨ w9.heap.size ≤ k → k ≠ W.heap.size) := Lib.hid fun q hq e => by
       rcases hq with hq | hq
       ·have := (HOB.out q hq).1; omega
       ·have := HBR.out.size; have := HS.out.lt; omega
      rintro e W' (⟨rfl, hJ', ht⟩ | ⟨rfl, hJx', ht⟩)
      ·have HJ4 := Lib.hid hJ'
       have HT4 := Lib.hid ht
       clear hJ' ht
       gi_wp2
       go_roundw
       case rel => exact ⟨k + 1, by omega, by go_num, HS3.out.turned HT4.out (fun h => HOW.out _ h rfl), by have := HT4.out.size; have := HZ3.out; omega, by rw [HEnd.out]; exact HJ4.out⟩
       case measure => simp [intOf]; omega
      ·have HJ4 := Lib.hid hJx'
       have HT4 := Lib.hid ht
       clear hJx' ht
       gi_wp2
       refine bodyPost_ret (results_none rfl _ _ _) rfl ?_
       exact ⟨⟨_, rfl⟩, w9.heap.size, HBR.out.size, by have := HT4.out.size; have := HZ3.out; omega, Or.inr ⟨_, HE2.out, HJ4.out⟩⟩
     ·have HG := Lib.hid hg
      have HS : Hid (endsTo f (k + 1) = endsTo f k) := Lib.hid (by rw [hasB_goneL] at hg; simp [endsTo, hg])
      clear hg
      gi_wp2_with (gi_at_lookup; refine wpListIn_lookup_set rfl _ _ rfl Tryz.underlying98 Tryz.underlying3 (Tryz.zeroValue4 _) rfl HS3.out rfl ?_; rw [HG.out])
      refine ⟨fun _ h => (by cases h), ?_⟩
      gi_wp2
      go_roundw
      case rel => exact ⟨k + 1, by omega, by go_num, HS3.out, HZ3.out, by rw [HS.out]; exact HJ3.out⟩
      case measure => simp [intOf]; omega
    ·obtain rfl : k = n := by omega
     gi_wp2
     go_end0
     exact ⟨⟨_, rfl⟩, w9.heap.size, HBR.out.size, HZ3.out, Or.inl (by rw [HL.out]; exact HJ3.out)⟩
end Go.Proofs.YteiaeaciaglmgaaGreat
namespace Go.Proofs.YteiaeaciaglmgaaGreat
open Go.RowKit
attribute [local go_sem] Oper.semAt_some
theorem nth_take {zs : List Int} {i : Nat} (h : i < zs.length) : zs.take (i + 1) = zs.take i ++ [nth zs i] := by
 rw [List.take_succ_eq_append_getElem h, nth_eq_getElem h]
theorem endsL_64 {f : Flow} (h : checkE f = 0) : ∀ x ∈ endsL f, I64 x := by
 intro x hx
 have := (endsTo_mem f x _).1 hx
 have := checkE_ok h
 unfold I64
 omega
theorem nth_64 {zs : List Int} (h : ∀ x ∈ zs, I64 x) (i : Nat) : I64 (nth zs i) := by
 by_cases hi : i < zs.length
 ·rw [nth_eq_getElem hi]; exact h _ (List.getElem_mem hi)
 ·unfold nth; rw [List.getD_eq_getElem?_getD, List.getElem?_eq_none (by omega)]; simp [I64]
set_option maxHeartbeats 2000000 in
set_option maxRecDepth 100000 in
/-- flows.Ends -/
theorem fEnds_any (B : Nat) (w : World) (vs vl : Value) (f : Flow) (hf : IsFlow B w vs vl f) (hB : B ≤ w.heap.size) :
  Calls Tryz.prog 47 #[.agg #[vs, vl]] w fun e w' => ∃ v, e = .returned (.tuple #[v, .int .i64 (checkE f)]) ∧ OwnInts w.heap.size w' v (endsR f) ∧ Below w.heap.size w w' := by
 have HF := Lib.hid hf
 obtain ⟨rfl, ⟨hs1, hs2⟩, hl⟩ := hf
 obtain ⟨b, off, cap, ⟨a, rfl, hcap, hmax, ha⟩, hlen, hc⟩ := hl
 clear hc ha
 have HC := Lib.hid (fun o o' => fcheck_any B ((w.alloc o).alloc o') _ _ f (HF.out.below (((Below.refl B w).alloc hB o).alloc (by simp; omega) o') (Nat.le_refl _)) (by simp; omega))
 by_cases h1 : checkE f = 0
 ·have HER : Hid (endsR f = endsL f) := Lib.hid (by unfold endsR; rw [if_pos h1])
  have h1' : (checkE f != 0) = false := by simpa using h1
  have H1 := Lib.hid h1
  have HEL := Lib.hid (endsL_len h1)
  have HE64 := Lib.hid (nth_64 (endsL_64 h1))
  clear h1
  refine (callsIn_wide (n := 11)).1 ?_
  refine callsIn_of_wp_marks Tryz.func47 rfl trivial ?_ rfl
  simp only [Tryz.ntmps47, List.size_toArray, List.length_cons, List.length_nil, Nat.reduceAdd, Nat.reduceSub, Array.replicate_succ, Array.replicate_zero, List.push_toArray, List.append_toArray, List.nil_append, List.cons_append]
  gi_wp2_with (first
   | (refine ⟨trivial, ?_⟩; gi_at_call 39; refine (callsIn_wide.2 (HC.out _ _)).mono ?_; rintro e w5 ⟨rfl, hb5⟩; have HB5 := Lib.hid hb5; have HX5 := Lib.hid (((Box.new w _ _).alloc _).ext hb5); have HL5 := Lib.hid ((Cell1.new (w.alloc _) _ _).ext hb5); obtain ⟨z5, r5⟩ := HX5.out; clear hb5)
   | (refine ⟨trivial, ?_⟩; gi_at_call 69; refine (callsIn_wide.2 (fends_any _ _ _ f B (HF.out.below ((((Below.refl B w).alloc hB _).alloc (by simp; omega) _).trans (HB5.out.mono (by simp; omega))) (Nat.le_refl _)))).mono ?_; rintro e w6 ⟨rfl, rfl⟩))
  have HW5 : Hid (Below w.heap.size w w5) := Lib.hid ((((Below.refl _ w).alloc (Nat.le_refl _) _).alloc (by simp) _).trans (HB5.out.mono (by simp; omega)))
  have HW6 := Lib.hid (HW5.out.alloc (HW5.out.size) (.cells #[.int .i64 f.senders, .slice a f.lots.length cap] 24))
  have HL6 := Lib.hid (HL5.out.alloc (.cells #[.int .i64 f.senders, .slice a f.lots.length cap] 24))
  have HX6 := Lib.hid (Box.new w5 #[.int .i64 f.senders, .slice a f.lots.length cap] 24)
  have HZ := Lib.hid HL5.out.lt
  obtain ⟨bf, hbf⟩ : ∃ x, w5.heap.size = x := ⟨_, rfl⟩
  obtain ⟨bl, hbl⟩ : ∃ x, w.heap.size + 1 = x := ⟨_, rfl⟩
  have hs1 : (w.alloc (.cells #[.int .i64 f.senders, .slice a f.lots.length cap] 24)).heap.size = bl := by simp [hbl]
  rw [hs1] at HL6 HZ
  rw [hbf] at HX6 HZ
  rw [hbf, hbl]
  obtain ⟨w6, hw6⟩ : ∃ w6, w5.alloc (.cells #[.int .i64 f.senders, .slice a f.lots.length cap] 24) = w6 := ⟨_, rfl⟩
  rw [hw6] at HW6 HL6 HX6 ⊢
  have hbl2 : w.heap.size < bl := by omega
  clear hw6 z5 r5 hbf hbl HX5 HL5 HB5 HW5
  have HBl := Lib.hid hbl2
  clear hbl2
  refine range_law (w := w6) rfl (enters_of Tryz.func90 (by kernel_rfl) rfl) (fends_iter B bf w6 _ _ f (HF.out.below HW6.out hB) (by have := HW6.out.size; omega) HX6.out H1.out) (Turned.refl _ _)
   (fun k hk => by rcases hk with hk | rfl; have := HW6.out.size; omega; exact HX6.out.1) (fun k => k = bl) (fun k hk => ⟨by rw [hk]; exact HL6.out.lt, by rw [hk]; rintro (h | h); have := HBl.out; omega; have := HZ.out; omega⟩)
   (fun i W args h => by rw [h]; rfl) (fun i A B args h _ => h)
   (fun s i W => ∃ v, Cell1 W bl v ∧ OwnInts s W v ((endsL f).take i) ∧ Below w.heap.size w W) (fun _ _ _ _ => False) ?hI (fun _ _ _ _ _ _ h _ => h) ?h0 ?hround ?hdone (fun _ _ _ _ _ _ _ _ _ h _ => h.elim)
  case hI =>
   rintro s i A A' hs ⟨v, h1, h2, h3⟩ ht
   have := HW6.out.size
   exact ⟨v, h1.turned ht (fun h => by have := HL6.out.lt; omega), h2.turned ht (fun k hk h => by omega), h3.trans (ht.below h3.size (fun k hk h => by omega))⟩
  case h0 =>
   intro s W1 hs hs1 hb
   exact ⟨_, HL6.out.ext hb, OwnInts.nil _ _, HW6.out.trans (hb.mono HW6.out.size)⟩
  case hround =>
   rintro l s i W args hs hsW hi ⟨v, h1, h2, h3⟩ rfl
   gi_wp2
   refine ⟨Below.refl _ _, fun W2 ht => ?_⟩
   have q1 := h1.turned ht (fun h => by have := HL6.out.lt; omega)
   have q2 := h2.turned ht (fun k hk h => by omega)
   have HB2 : Hid (Below w.heap.size w W2) := Lib.hid (h3.trans (ht.below h3.size (fun k hk h => by have := HW6.out.size; omega)))
   have HQ1 := Lib.hid q1
   have HQ2 := Lib.hid q2
   have HSZ : Hid (s ≤ W2.heap.size) := Lib.hid (by have := ht.size; omega)
   have HBS : Hid (bl < s) := Lib.hid (by have := HL6.out.lt; omega)
   have HTK := Lib.hid (nth_take hi)
   have c1 := q1.cell
   clear h1 h2 h3 q1 q2 ht
   gi_wp2_with (gi_at_builtin; refine append_intIn (n := nth (endsL f) i) rfl _ _ rfl rfl (HQ2.out.alloc _) rfl ?c1 (HE64.out i) ?c3 ?c4 ?c5)
   try (case c1 => exact World.cell?_alloc_at _ _ _ _ rfl)
   case c3 => have := HEL.out; simp; omega
   try (case c4 => have := HSZ.out; simp; omega)
   case c5 =>
    intro v' w8 ho8 hg8
    obtain ⟨a8, m8, n8, rfl⟩ := ho8.form'
    have hne : some bl ≠ v.ownBlock := fun e => by have := (HQ2.out.1.lt bl e.symm).1; have := HBS.out; omega
    have k8 := (HQ1.out.alloc (.cells #[.int .i64 (nth (endsL f) i)] 3)).grown hg8 hne
    have HK8 := Lib.hid k8
    have HO8 := Lib.hid ho8
    have HG8 : Hid (Turned (fun k => k = bl ∨ s ≤ k) W2 w8) := Lib.hid ((Turned.of_below (box_below' W2 (.cells #[.int .i64 (nth (endsL f) i)] 3))).trans (Turned.of_grown hg8 (fun k e => Or.inr (HQ2.out.1.lt k e).1)))
    have HB8 : Hid (Below w.heap.size w w8) := Lib.hid (HB2.out.trans (HG8.out.below HB2.out.size (fun k hk h => by have := HBS.out; have := HBl.out; omega)))
    have k9 := k8.cell
    have k10 := k8.free
    clear ho8 hg8 hne k8 c1
    gi_wp2
    have hgs := grown_setCell w8 ⟨bl, 0, none⟩ (.slice a8 m8 n8)
    have hts : Turned (fun k => k = bl ∨ s ≤ k) w8 (w8.setCell ⟨bl, 0, none⟩ (.slice a8 m8 n8)) := Turned.of_grown hgs (fun k e => by cases e; exact Or.inl rfl)
    refine ⟨HG8.out.trans hts, _, HK8.out.set _, ?_, HB8.out.trans (hts.below HB8.out.size (fun k hk h => by have := HBS.out; have := HBl.out; omega))⟩
    rw [HTK.out]
    exact HO8.out.kept hgs (Or.inr (fun e => by have := (HO8.out.1.lt bl e).1; have := HBS.out; omega))
  case hdone =>
   rintro d s W hd hds hsW ⟨v, h1, h2, h3⟩ hk
   have HD := Lib.hid hk
   rw [List.take_of_length_le (Nat.le_refl _)] at h2
   have H1' := Lib.hid h1
   have H2' := Lib.hid h2
   have H3' := Lib.hid h3
   obtain ⟨a8, m8, n8, rfl⟩ := h2.form'
   have c1 := h1.cell
   have c2 := h1.free
   clear h1 h2 h3 hk
   gi_wp2
   have hdb : bl ≠ d := by have := HL6.out.lt; omega
   have hK : (W.setCell ⟨bl, 0, none⟩ (.slice a8 m8 n8)).heap[d]? = some (.deferred (some [])) := (Below.heap_setCell W _ _ d (fun e => hdb e.symm)).trans HD.out
   refine ⟨by simp, .inl ⟨_, _, rfl, run_takeDeferred hK, ?_⟩⟩
   have hts : Turned (fun k => k = bl ∨ k = d) W ((W.setCell ⟨bl, 0, none⟩ (.slice a8 m8 n8)).putObj d (.deferred none)) :=
    (Turned.of_grown (grown_setCell W ⟨bl, 0, none⟩ (.slice a8 m8 n8)) (fun k e => by cases e; exact Or.inl rfl)).trans (Turned.putObj _ _ _ (Or.inr rfl))
   have hcl : ((W.setCell ⟨bl, 0, none⟩ (.slice a8 m8 n8)).putObj d (.deferred none)).cell? ⟨bl, 0, none⟩ = some (.slice a8 m8 n8) :=
    (World.cell?_of_block (World.putObj_heap_other (w := W.setCell ⟨bl, 0, none⟩ (.slice a8 m8 n8)) hdb)).trans (H1'.out.set _).cell
   refine ⟨.tuple #[.slice a8 m8 n8, .int .i64 0], by simp [results, Tryz.results47, go_sem, hcl], _, by rw [H1.out], ?_, ?_⟩
   ·rw [HER.out]
    exact (H2'.out.turned hts (fun k hk h => by have := HL6.out.lt; omega)).mono (by have := HW6.out.size; omega)
   ·exact H3'.out.trans (hts.below H3'.out.size (fun k hk h => by have := HBl.out; have := HW6.out.size; omega))
 ·have HT : Hid (endsR f = []) := Lib.hid (by unfold endsR; rw [if_neg h1])
  have h1' : (checkE f != 0) = true := by simpa using h1
  clear h1
  go_enter Tryz.func47, Tryz.ntmps47
  go_wp2_with (go_at_call 39; refine (HC.out _ _).mono ?_; rintro e w5 ⟨rfl, hb5⟩; have HB5 := Lib.hid hb5; have HL5 := Lib.hid ((Cell1.new (w.alloc _) _ _).ext hb5); have c5 := HL5.out.cell; have f5 := HL5.out.free; rw [World.size_alloc] at c5 f5; clear hb5)
  have HW5 : Hid (Below w.heap.size w w5) := Lib.hid ((((Below.refl _ w).alloc (Nat.le_refl _) _).alloc (by simp) _).trans (HB5.out.mono (by simp; omega)))
  have hset := (HL5.out.set (.slice none 0 0)).cell
  rw [World.size_alloc] at hset
  refine bodyPost_ret (v := .tuple #[.slice none 0 0, .int .i64 (checkE f)]) (by simp [results, Tryz.results47, go_sem, hset]) rfl ⟨_, rfl, by rw [HT.out]; exact OwnInts.nil _ _, HW5.out.setCell (by show w.heap.size ≤ w.heap.size + 1; omega) _⟩
end Go.Proofs.YteiaeaciaglmgaaGreat
namespace Go.Proofs.YteiaeaciaglmgaaGreat
open Go.RowKit
def word (i j : Nat) : Int := ((64 * i + j : Nat) : Int)
/-- block b is a set of m words that holds the numbers S -/
def BitSet (w : World) (b m : Nat) (S : List Int) : Prop :=
 ∃ c t, w.heap[b]? = some (.cells c t (0, 0)) ∧ c.size = m ∧ ∀ i, i < m → ∃ n : Nat, c[i]? = some (.int .u64 n) ∧ n < 18446744073709551616 ∧ ∀ j, j < 64 → n.testBit j = hasB S (word i j)
theorem BitSet.lt {w : World} {b m : Nat} {S : List Int} (h : BitSet w b m S) : b < w.heap.size := by obtain ⟨c, t, h, _⟩ := h; exact (Array.getElem?_eq_some_iff.1 h).1
theorem BitSet.below {B : Nat} {w w' : World} {b m : Nat} {S : List Int} (h : BitSet w b m S) (hb : Below B w w') (hB : b < B) : BitSet w' b m S := by
 obtain ⟨c, t, h, r⟩ := h
 exact ⟨c, t, (hb.block b hB).trans h, r⟩
theorem BitSet.ext {w w' : World} {b m : Nat} {S : List Int} (h : BitSet w b m S) (hb : Below w.heap.size w w') : BitSet w' b m S := h.below hb h.lt
theorem BitSet.alloc {w : World} {b m : Nat} {S : List Int} (h : BitSet w b m S) (o : Obj) : BitSet (w.alloc o) b m S := h.ext (box_below' w o)
theorem BitSet.grown {w w' : World} {b m : Nat} {S : List Int} {row : Option Nat} (h : BitSet w b m S) (hg : w.grownBy w' row) (hne : some b ≠ row) : BitSet w' b m S := by
 have hl := h.lt
 obtain ⟨c, t, h, r⟩ := h
 exact ⟨c, t, (hg.block b hl hne).trans h, r⟩
end Go.Proofs.YteiaeaciaglmgaaGreat
namespace Go.Proofs.YteiaeaciaglmgaaGreat
open Go.RowKit
/-- what holds between two rounds of reach.spots -/
def SpotsInv (w W : World) (b m bc bn : Nat) (fb : Array Value) (S : List Int) (n : Int) : Prop :=
 Below w.heap.size w W ∧ Box W w.heap.size fb ∧ BitSet W b m S ∧ Box W bc #[.slice (some ⟨b, 0, none⟩) m m] ∧ Cell1 W bn (.int .i64 n) ∧ w.heap.size < b ∧ b < bc ∧ bc < bn
theorem SpotsInv.ext {w W W' : World} {b m bc bn : Nat} {fb : Array Value} {S : List Int} {n : Int} (h : SpotsInv w W b m bc bn fb S n) (hb : Below W.heap.size W W') : SpotsInv w W' b m bc bn fb S n :=
 ⟨h.1.trans (hb.mono h.1.size), h.2.1.ext hb, h.2.2.1.ext hb, h.2.2.2.1.ext hb, h.2.2.2.2.1.ext hb, h.2.2.2.2.2⟩
end Go.Proofs.YteiaeaciaglmgaaGreat
namespace Go.Proofs.YteiaeaciaglmgaaGreat
open Go.RowKit
attribute [local go_sem] Oper.semAt_some
end Go.Proofs.YteiaeaciaglmgaaGreat
namespace Go.Proofs.YteiaeaciaglmgaaGreat
theorem hasB_iff {l : List Int} {x : Int} : hasB l x = true ↔ x ∈ l := by unfold hasB; simp
theorem lotsB_le {f : Flow} {k m : Nat} (h : lotsB f m = true) (hk : k ≤ m) : lotsB f k = true := by
 cases hh : lotsB f k
 ·rw [lotsB_false hh hk] at h; cases h
 ·rfl
theorem lotB_facts {f : Flow} {k : Nat} (h : lotB f k = true) : (lotAt f.lots k).ins.Nodup ∧ (∀ x ∈ (lotAt f.lots k).ins, 0 ≤ x ∧ x < beforeI f k ∧ goneB f x k = false) ∧
  ((lotAt f.lots k).known = true → (lotAt f.lots k).perm.length = (lotAt f.lots k).ins.length ∧ (lotAt f.lots k).perm.Nodup ∧ ∀ y ∈ (lotAt f.lots k).perm, 0 ≤ y ∧ y < ((lotAt f.lots k).ins.length : Int)) := by
 unfold lotB at h
 simp only [Bool.and_eq_true] at h
 obtain ⟨⟨⟨_, h2⟩, h3⟩, h4⟩ := h
 refine ⟨by unfold diffB at h2; simpa using h2, fun x hx => ?_, fun hk => ?_⟩
 ·have := List.all_eq_true.1 h3 x hx
  simp at this
  exact ⟨this.1.1, this.1.2, this.2⟩
 ·rw [if_pos hk] at h4
  unfold permB inB diffB at h4
  simp only [Bool.and_eq_true, decide_eq_true_eq] at h4
  refine ⟨by omega, h4.2.2, fun y hy => ?_⟩
  have := List.all_eq_true.1 h4.1 y hy
  simpa using this
theorem nth_idx {l : List Int} {x : Int} (h : x ∈ l) : l.idxOf x < l.length ∧ nth l (l.idxOf x) = x := by
 have hl := List.idxOf_lt_length_of_mem h
 exact ⟨hl, by rw [nth_eq_getElem hl]; exact List.getElem_idxOf hl⟩
theorem nth_mem {l : List Int} {k : Nat} (h : k < l.length) : nth l k ∈ l := by rw [nth_eq_getElem h]; exact List.getElem_mem h
theorem nth_inj {l : List Int} (h : l.Nodup) {i j : Nat} (hi : i < l.length) (hj : j < l.length) (e : nth l i = nth l j) : i = j := by
 rw [nth_eq_getElem hi, nth_eq_getElem hj] at e
 have hp := List.pairwise_iff_getElem.1 h
 rcases Nat.lt_trichotomy i j with hlt | heq | hlt
 ·exact absurd e (hp i j hi hj hlt)
 ·exact heq
 ·exact absurd e.symm (hp j i hj hi hlt)
end Go.Proofs.YteiaeaciaglmgaaGreat
namespace Go.Proofs.YteiaeaciaglmgaaGreat
open Go.RowKit
/-- block b holds the cells c and may be written -/
def CellsN (w : World) (b : Nat) (c : Array Value) : Prop := ∃ t, w.heap[b]? = some (.cells c t (0, 0))
theorem CellsN.lt {w : World} {b : Nat} {c : Array Value} (h : CellsN w b c) : b < w.heap.size := by obtain ⟨t, h⟩ := h; exact (Array.getElem?_eq_some_iff.1 h).1
theorem CellsN.new (w : World) (c : Array Value) (t : TypeId) : CellsN (w.alloc (.cells c t)) w.heap.size c := ⟨t, heap_alloc_new w _⟩
theorem CellsN.grown {b : Nat} {w w' : World} {c : Array Value} {row : Option Nat} (h : CellsN w b c) (hg : w.grownBy w' row) (hne : some b ≠ row) : CellsN w' b c := by
 have hl := h.lt
 obtain ⟨t, h⟩ := h
 exact ⟨t, (hg.block b hl hne).trans h⟩
theorem CellsN.below {B b : Nat} {w w' : World} {c : Array Value} (h : CellsN w b c) (hb : Below B w w') (hB : b < B) : CellsN w' b c := by
 obtain ⟨t, h⟩ := h
 exact ⟨t, (hb.block b hB).trans h⟩
theorem CellsN.ext {b : Nat} {w w' : World} {c : Array Value} (h : CellsN w b c) (hb : Below w.heap.size w w') : CellsN w' b c := h.below hb h.lt
theorem CellsN.alloc {b : Nat} {w : World} {c : Array Value} (h : CellsN w b c) (o : Obj) : CellsN (w.alloc o) b c := h.ext (box_below' w o)
theorem CellsN.cell {b : Nat} {w : World} {c : Array Value} (h : CellsN w b c) (i : Nat) : w.cell? ⟨b, i, none⟩ = c[i]? := by
 obtain ⟨t, h⟩ := h
 simp [World.cell?, h]
theorem CellsN.free {b : Nat} {w : World} {c : Array Value} (h : CellsN w b c) (i : Nat) : w.frozen? ⟨b, i, none⟩ = false := by
 obtain ⟨t, h⟩ := h
 simp [World.frozen?, h]
theorem CellsN.box {b : Nat} {w : World} {c : Array Value} (h : CellsN w b c) : Box w b c := ⟨h.lt, fun i => h.cell i⟩
theorem CellsN.set {b : Nat} {w : World} {c : Array Value} (h : CellsN w b c) (i : Nat) (u : Value) : CellsN (w.setCell ⟨b, i, none⟩ u) b (c.setIfInBounds i u) := by
 obtain ⟨t, h⟩ := h
 refine ⟨t, ?_⟩
 simp [World.setCell, Array.getElem?_modify, h]
end Go.Proofs.YteiaeaciaglmgaaGreat
namespace Go.Proofs.YteiaeaciaglmgaaGreat
open Go.RowKit
section
variable {P : Program} (w : World)
theorem run_append_nil_src (base : Nat) (t ty e : TypeId) (i : TypeInfo) (size : Nat) (ht : P.underlying t = some (.slice e)) (hi : P.info? e = some i)
  (v : Value) (n : Nat) (xs : List Value) (hown : w.ownsRow base e size v n xs) (c : Nat) : (Builtin.append_ #[t, t] ty #[v, .slice none 0 c]).run P w = .ok v w := by
 rcases hown.2 with ⟨rfl, rfl⟩ | ⟨g, cap, cur, rfl, _, _, hnc, _⟩
 ·simp [Builtin.append_, run_underlying ht, sizeOf, typeInfo, hi, Builtin.lenOf, Builtin.firstCells]
 ·simp [Builtin.append_, run_underlying ht, sizeOf, typeInfo, hi, Builtin.lenOf, Builtin.firstCells, hnc, storeCells]
/-- a source of an append: a slice whose m elements are the cells news -/
def Src (w : World) (size : Nat) (vx : Value) (m : Nat) (news : List Value) : Prop :=
 ∃ A c, vx = .slice A m c ∧ news.length = m * size ∧ (∀ j u, news[j]? = some u → ∃ ad, A = some ad ∧ w.cell? (ad.add j) = some u) ∧ ∀ u ∈ news, u.oneCell' = true
theorem run_append_gen (base : Nat) (t ty e : TypeId) (i : TypeInfo) (z : Value) (size bytes : Nat) (ht : P.underlying t = some (.slice e)) (hi : P.info? e = some i) (hz : i.zero = some z)
  (hsize : i.size = size) (hby : i.bytes = bytes) (hzs : z.cells.size = size) (hsz : 0 < size)
  (v : Value) (n : Nat) (xs : List Value) (hown : w.ownsRow base e size v n xs)
  (vx : Value) (m : Nat) (news : List Value) (hr : Src w size vx m news)
  (h63 : n + m ≤ maxLen) (hbytes : (n + m) * bytes ≤ 140737488355328) (hbase : base ≤ w.heap.size) :
  ∃ v' w', (Builtin.append_ #[t, t] ty #[v, vx]).run P w = .ok v' w' ∧ w'.ownsRow base e size v' (n + m) (xs ++ news) ∧ w.grownBy w' v.ownBlock ∧
   (v'.ownBlock = v.ownBlock ∨ v'.ownBlock = some w.heap.size) := by
 obtain ⟨A, c, rfl, hl, hc, h1⟩ := hr
 rcases A with _ | ad
 ·have hn : news = [] := by
   rcases news with _ | ⟨u, r⟩
   ·rfl
   ·obtain ⟨ad, h, _⟩ := hc 0 u rfl
    cases h
  subst hn
  have hm : m = 0 := by
   rcases Nat.eq_zero_or_pos m with h | h
   ·exact h
   ·have := Nat.mul_pos h hsz
    simp only [List.length_nil] at hl
    omega
  subst hm
  exact ⟨v, w, run_append_nil_src w base t ty e i size ht hi v n xs hown c, by simpa using hown, World.grownBy.refl w _, .inl rfl⟩
 ·have hcells : ∀ j u, news[j]? = some u → w.cell? (ad.add j) = some u := by
   intro j u hu
   obtain ⟨ad', h, hh⟩ := hc j u hu
   injection h with h
   subst h
   exact hh
  obtain ⟨v', w', hrun, h2, h3, _, h5⟩ := run_append_own_at (P := P) w base t ty e i z size bytes ht hi hz hsize hby hzs hsz v n xs hown ad m c news hl hcells h1 h63 hbytes hbase
  exact ⟨v', w', hrun, h2, h3, h5⟩
theorem wp_of_append {o : Oper} {a : Act} {K : Act → World → Prop} {Q : Exit → Act → World → Prop} {s x : Operand} {t : TypeId}
  (ho : o.op = .call { callee := .builtin .append, args := #[s, x], argTypes := #[t, t] }) {v vx v' : Value} {w' : World} (hs : a.eval s = v) (hx : a.eval x = vx)
  (hrun : (Builtin.append_ #[t, t] o.type #[v, vx]).run P w = .ok v' w') (h : K (a.put o.dst v') w') : o.wp P a w K Q := by
 unfold Oper.wp execOp
 simp only [ho, resolve, invoke, builtin, Sem.run_bind, Sem.run_pure, Result.andThen_ok, List.map_toArray, List.map_cons, List.map_nil, hs, hx, hrun]
 exact h
end
theorem IsInts.src {B : Nat} {w : World} {v : Value} {ys : List Int} (h : IsInts B w v ys) : Src w 1 v ys.length (ys.map (Value.int .i64)) := by
 obtain ⟨b, off, cap, ⟨ad, rfl, hcap, hmax, ha⟩, hly, hz, hc⟩ := h
 refine ⟨ad, cap, rfl, by simp, fun j u hj => ?_, fun u hu => ?_⟩
 ·have hlt : j < ys.length := by
   have := (List.getElem?_eq_some_iff.1 hj).1
   simpa using this
  obtain rfl : ad = some ⟨b, off, none⟩ := by rcases ha with ha | ha; exact ha; omega
  have h1 := (hc j hlt).2
  rw [nth_eq_getElem hlt] at h1
  rw [List.getElem?_map, List.getElem?_eq_getElem hlt] at hj
  have e : (⟨b, off, none⟩ : Addr).add j = ⟨b, off + j, none⟩ := by unfold Addr.add; split <;> simp_all
  refine ⟨_, rfl, ?_⟩
  rw [e, h1]
  simpa using hj
 ·obtain ⟨n, _, rfl⟩ := List.mem_map.1 hu
  rfl
/-- append of numbers: the run -/
theorem run_append_ints {w : World} {B : Nat} {v vx : Value} {xs ys : List Int} {ty : TypeId} (hown : OwnInts B w v xs) (hs : Src w 1 vx ys.length (ys.map (Value.int .i64))) (hz : ∀ y ∈ ys, I64 y)
  (hlen : xs.length + ys.length ≤ 17592186043904) (hB : B ≤ w.heap.size) :
  ∃ v' w', (Builtin.append_ #[25, 25] ty #[v, vx]).run Tryz.prog w = .ok v' w' ∧ OwnInts B w' v' (xs ++ ys) ∧ w.grownBy w' v.ownBlock ∧ (v'.ownBlock = v.ownBlock ∨ v'.ownBlock = some w.heap.size) := by
 obtain ⟨i0, hi, hz0, hz1, hz2⟩ := info_parts int_info
 obtain ⟨v', w', h1, h2, h3, h4⟩ := run_append_gen (P := Tryz.prog) w B 25 ty 3 i0 (.int .i64 0) 1 8 Tryz.underlying25 hi hz0 hz1 hz2 rfl (by decide) v xs.length _ hown.1 vx ys.length _ hs (by unfold maxLen; omega) (by omega) hB
 refine ⟨v', w', h1, ⟨by simpa using h2, by simpa using hlen, fun y hy => ?_⟩, h3, h4⟩
 rcases List.mem_append.1 hy with hy | hy
 ·exact hown.2.2 y hy
 ·exact hz y hy
/-- append of numbers, at a list of operations -/
theorem append_intsA {ops : Array Oper} {rest : List Oper} {o : Oper} {a : Act} {w : World} {Q : Exit → Act → World → Prop} (hgd : o.guard = none) (s x : Operand)
  (ho : o.op = .call { callee := .builtin .append, args := #[s, x], argTypes := #[25, 25] })
  {B : Nat} {v vx : Value} {xs : List Int} (ys : List Int) (hs : a.eval s = v) (hown : OwnInts B w v xs) (hx : a.eval x = vx) (hsrc : Src w 1 vx ys.length (ys.map (Value.int .i64))) (hz : ∀ y ∈ ys, I64 y)
  (hlen : xs.length + ys.length ≤ 17592186043904) (hB : B ≤ w.heap.size)
  (h : ∀ v' w', OwnInts B w' v' (xs ++ ys) → w.grownBy w' v.ownBlock → (v'.ownBlock = v.ownBlock ∨ v'.ownBlock = some w.heap.size) → wpList Tryz.prog ops Q rest (a.put o.dst v') w') : wpList Tryz.prog ops Q (o :: rest) a w := by
 refine wpList_plain hgd fun K hK => ?_
 obtain ⟨v', w', h1, h2, h3, h4⟩ := run_append_ints (ty := o.type) hown hsrc hz hlen hB
 exact wp_of_append w ho hs hx h1 (hK _ _ (h v' w' h2 h3 h4))
theorem lot_info : (Tryz.prog.info? 64).map (fun i => (i.zero, i.size, i.bytes)) = some (some (.agg #[.slice none 0 0, .bool false, .slice none 0 0]), 3, 56) := by kernel_rfl
structure V3 where
 i : Value
 k : Value
 p : Value
instance : Inhabited V3 := ⟨⟨undef, undef, undef⟩⟩
def flat : List V3 → List Value
 | [] => []
 | c :: r => c.i :: c.k :: c.p :: flat r
def v3At (l : List V3) (j : Nat) : V3 := l.getD j default
theorem flat_append : ∀ a b, flat (a ++ b) = flat a ++ flat b
 | [], _ => rfl
 | c :: r, b => by simp [flat, flat_append r b]
theorem v3At_left {a b : List V3} {j : Nat} (h : j < a.length) : v3At (a ++ b) j = v3At a j := by
 unfold v3At; rw [List.getD_eq_getElem?_getD, List.getD_eq_getElem?_getD, List.getElem?_append_left h]
theorem v3At_right {a b : List V3} {j : Nat} (h : a.length ≤ j) : v3At (a ++ b) j = v3At b (j - a.length) := by
 unfold v3At; rw [List.getD_eq_getElem?_getD, List.getD_eq_getElem?_getD, List.getElem?_append_right h]
theorem lotAt_left {a b : List Lot} {j : Nat} (h : j < a.length) : lotAt (a ++ b) j = lotAt a j := by
 unfold lotAt; rw [List.getD_eq_getElem?_getD, List.getD_eq_getElem?_getD, List.getElem?_append_left h]
theorem lotAt_right {a b : List Lot} {j : Nat} (h : a.length ≤ j) : lotAt (a ++ b) j = lotAt b (j - a.length) := by
 unfold lotAt; rw [List.getD_eq_getElem?_getD, List.getD_eq_getElem?_getD, List.getElem?_append_right h]
theorem flat_get : ∀ (l : List V3) (j : Nat), j < l.length → (flat l)[j * 3]? = some (v3At l j).i ∧ (flat l)[j * 3 + 1]? = some (v3At l j).k ∧ (flat l)[j * 3 + 2]? = some (v3At l j).p
 | c :: r, 0, _ => by simp [flat, v3At]
 | c :: r, j + 1, h => by
  have ih := flat_get r j (by simpa using h)
  have e : (j + 1) * 3 = j * 3 + 3 := by omega
  have e1 : v3At (c :: r) (j + 1) = v3At r j := by unfold v3At; simp
  rw [e, e1]
  simp only [flat]
  refine ⟨?_, ?_, ?_⟩
  ·simpa using ih.1
  ·have : j * 3 + 3 + 1 = (j * 3 + 1) + 3 := by omega
   rw [this]; simpa using ih.2.1
  ·have : j * 3 + 3 + 2 = (j * 3 + 2) + 3 := by omega
   rw [this]; simpa using ih.2.2
theorem IsInts.one {B : Nat} {w : World} {v : Value} {xs : List Int} (h : IsInts B w v xs) : v.oneCell' = true := by
 obtain ⟨b, off, cap, ⟨a, rfl, _⟩, _⟩ := h; rfl
theorem IsLot.one {B : Nat} {w : World} {vi vk vp : Value} {d : Lot} (h : IsLot B w vi vk vp d) : vi.oneCell' = true ∧ vk.oneCell' = true ∧ vp.oneCell' = true := by
 obtain ⟨h1, rfl, h3⟩ := h
 exact ⟨h1.one, rfl, h3.one⟩
/-- a source of lots: their numbers lie in blocks below C -/
def SrcLots (C : Nat) (w : World) (vx : Value) (ys : List Lot) : Prop :=
 ∃ vals : List V3, Src w 3 vx ys.length (flat vals) ∧ vals.length = ys.length ∧ ∀ j, j < ys.length → IsLot C w (v3At vals j).i (v3At vals j).k (v3At vals j).p (lotAt ys j)
theorem add3 (b o j : Nat) : (⟨b, o, none⟩ : Addr).add j = ⟨b, o + j, none⟩ := by unfold Addr.add; split <;> simp_all
/-- v reads as the lots ls; its row was made from block C on; the lots' numbers lie below C -/
def OwnLots (C : Nat) (w : World) (v : Value) (ls : List Lot) : Prop :=
 ∃ vals : List V3, w.ownsRow C 64 3 v ls.length (flat vals) ∧ vals.length = ls.length ∧ ls.length ≤ 2513169434900 ∧ ∀ j, j < ls.length → IsLot C w (v3At vals j).i (v3At vals j).k (v3At vals j).p (lotAt ls j)
theorem OwnLots.nil (C : Nat) (w : World) : OwnLots C w (.slice none 0 0) [] := ⟨[], World.ownsRow_nil _ _ _ _, rfl, by simp, fun j hj => by simp at hj⟩
theorem OwnLots.made {C n : Nat} {w : World} (hn : n = w.heap.size) (hC : C ≤ w.heap.size) : OwnLots C (w.alloc (.cells #[] 64)) (.slice (some ⟨n, 0, none⟩) 0 0) [] := by
 subst hn
 exact ⟨[], World.ownsRow_made w #[] 0 hC (by simp) rfl, rfl, by simp, fun j hj => by simp at hj⟩
theorem OwnLots.kept {C : Nat} {w w' : World} {v : Value} {ls : List Lot} {row : Option Nat} (h : OwnLots C w v ls) (hg : w.grownBy w' row) (hr : ∀ k, row = some k → C ≤ k) (hC : C ≤ w.heap.size) (hne : v.ownBlock = none ∨ v.ownBlock ≠ row) : OwnLots C w' v ls := by
 obtain ⟨vals, h1, h2, h3, h4⟩ := h
 have hb : Below C w w' := (Below.refl C w).grown hg hC hr
 exact ⟨vals, h1.kept hg hne, h2, h3, fun j hj => (h4 j hj).below hb (Nat.le_refl _)⟩
theorem OwnLots.below {C : Nat} {w w' : World} {v : Value} {ls : List Lot} (h : OwnLots C w v ls) (hb : Below w.heap.size w w') (hC : C ≤ w.heap.size) : OwnLots C w' v ls :=
 h.kept (row := none) ⟨hb.os, hb.tape, hb.output, hb.size, fun k hk _ => hb.block k hk⟩ (fun k hk => by cases hk) hC (by cases hv : v.ownBlock <;> simp)
theorem OwnLots.form {C : Nat} {w : World} {v : Value} {ls : List Lot} (h : OwnLots C w v ls) : ∃ a cap, v = .slice a ls.length cap := by
 obtain ⟨vals, h1, h2, h3, h4⟩ := h
 rcases h1.2 with ⟨rfl, hn⟩ | ⟨g, cap, cur, rfl, rest⟩
 ·exact ⟨none, 0, by rw [hn]⟩
 ·exact ⟨_, cap, rfl⟩
theorem run_append_lots {w : World} {C : Nat} {v vx : Value} {xs ys : List Lot} {ty : TypeId} (hown : OwnLots C w v xs) (hs : SrcLots C w vx ys) (hlen : xs.length + ys.length ≤ 2513169434900) (hC : C ≤ w.heap.size) :
  ∃ v' w', (Builtin.append_ #[22, 22] ty #[v, vx]).run Tryz.prog w = .ok v' w' ∧ OwnLots C w' v' (xs ++ ys) ∧ w.grownBy w' v.ownBlock ∧ (v'.ownBlock = v.ownBlock ∨ v'.ownBlock = some w.heap.size) := by
 obtain ⟨i0, hi, hz0, hz1, hz2⟩ := info_parts lot_info
 obtain ⟨vals, o1, o2, o3, o4⟩ := hown
 obtain ⟨news, s1, s2, s3⟩ := hs
 obtain ⟨v', w', h1, h2, h3, h4⟩ := run_append_gen (P := Tryz.prog) w C 22 ty 64 i0 _ 3 56 Tryz.underlying22 hi hz0 hz1 hz2 rfl (by decide) v xs.length _ o1 vx ys.length _ s1 (by unfold maxLen; omega) (by omega) hC
 have hb : Below C w w' := (Below.refl C w).grown h3 hC (fun k hk => (o1.lt k hk).1)
 refine ⟨v', w', h1, ⟨vals ++ news, by rw [flat_append]; simpa using h2, by simp [o2, s2], by simpa using hlen, fun j hj => ?_⟩, h3, h4⟩
 by_cases e : j < xs.length
 ·rw [v3At_left (by omega), lotAt_left e]
  exact (o4 j e).below hb (Nat.le_refl _)
 ·rw [v3At_right (by omega), lotAt_right (by omega), o2]
  exact (s3 (j - xs.length) (by simp at hj; omega)).below hb (Nat.le_refl _)
end Go.Proofs.YteiaeaciaglmgaaGreat
namespace Go.Proofs.YteiaeaciaglmgaaGreat
open Go.RowKit
/-- the index of the first number of a list that is x; -1 if there is none -/
def idxI (l : List Int) (x : Int) : Int := if x ∈ l then (l.idxOf x : Int) else -1
theorem idxI_found {l : List Int} {x : Int} {k : Nat} (h : hasB (l.take k) x = false) (hk : k < l.length) (e : nth l k = x) : idxI l x = k := by
 have hm : x ∈ l := by rw [← e, nth_eq_getElem hk]; exact List.getElem_mem hk
 unfold idxI
 rw [if_pos hm]
 have h1 := List.idxOf_lt_length_of_mem hm
 have h2 : l[l.idxOf x] = x := List.getElem_idxOf h1
 have h3 : ¬ l.idxOf x < k := by
  intro hlt
  have : x ∈ l.take k := by
   rw [List.mem_take_iff_getElem]
   exact ⟨l.idxOf x, by omega, h2⟩
  unfold hasB at h
  simp at h
  exact h this
 have h4 : ¬ k < l.idxOf x := by
  intro hlt
  have h5 := List.not_of_lt_findIdx (p := (· == x)) (xs := l) (i := k) hlt
  rw [nth_eq_getElem hk] at e
  simp [e] at h5
 omega
theorem idxI_none {l : List Int} {x : Int} (h : hasB l x = false) : idxI l x = -1 := by
 unfold idxI hasB at *
 simp at h
 rw [if_neg h]
theorem idxI_has (l : List Int) (x : Int) : decide (0 ≤ idxI l x) = hasB l x := by
 unfold idxI hasB
 by_cases h : x ∈ l
 ·rw [if_pos h]; simp [h]
 ·rw [if_neg h]; simp [h]
set_option maxHeartbeats 1000000 in
/-- slices.Index -/
theorem sindex_any (B : Nat) (w : World) (v : Value) (zs : List Int) (x : Int) (hv : IsInts B w v zs) :
  Calls Tryz.prog 40 #[v, .int .i64 x] w fun e w' => e = .returned (.int .i64 (idxI zs x)) ∧ w' = w := by
 obtain ⟨b, off, cap, ⟨a, rfl, hcap, hmax, ha⟩, hlen, hz, hc⟩ := hv
 have HC := Lib.hid hc
 clear hc hz
 go_enter Tryz.func40, Tryz.ntmps40
 go_wp2
 go_loop [8] (fun i => ∃ k : Nat, k ≤ zs.length ∧ i = .int .i64 k ∧ hasB (zs.take k) x = false) (fun i => zs.length - (intOf i).toNat)
 case atStart => exact ⟨0, by omega, rfl, rfl⟩
 case round =>
  obtain ⟨k, hk, rfl, hno⟩ := hrel
  have HN := Lib.hid hno
  clear hno
  by_cases hlt : k < zs.length
  ·obtain rfl : a = some ⟨b, off, none⟩ := by rcases ha with ha | ha; exact ha; omega
   have hcell := (HC.out k hlt).2
   have HT := Lib.hid (hasB_take_succ (n := x) hlt)
   clear ha
   by_cases he : nth zs k = x
   ·have HX := Lib.hid (idxI_found HN.out hlt he)
    have he1 : (x == nth zs k) = true := by simp [he]
    have he2 : (nth zs k == x) = true := by simp [he]
    clear he
    go_wp2
    go_ret
    exact ⟨by rw [HX.out]; rfl, rfl⟩
   ·have he1 : (x == nth zs k) = false := by simp; exact fun h => he h.symm
    have he2 : (nth zs k == x) = false := by simpa using he
    have HE2 := Lib.hid he2
    clear he
    go_wp2
    go_round
    case rel => exact ⟨k + 1, by omega, by go_num, by rw [HT.out, HN.out, HE2.out]; rfl⟩
    case measure => simp [intOf]; omega
  ·have HX := Lib.hid (idxI_none (l := zs) (x := x) (by rw [← hasB_take_all (k := k) (by omega)]; exact HN.out))
   go_wp2
   go_ret
   exact ⟨by rw [HX.out]; rfl, rfl⟩
/-- slices.Contains -/
theorem scontains_any (B : Nat) (w : World) (v : Value) (zs : List Int) (x : Int) (hv : IsInts B w v zs) :
  Calls Tryz.prog 54 #[v, .int .i64 x] w fun e w' => e = .returned (.bool (hasB zs x)) ∧ w' = w := by
 have HC := Lib.hid (sindex_any B w v zs x hv)
 have HI := Lib.hid (idxI_has zs x)
 clear hv
 go_enter Tryz.func54, Tryz.ntmps54
 go_wp2_with (go_at_call 40; refine HC.out.mono ?_; rintro e w5 ⟨rfl, rfl⟩)
 go_ret
 exact ⟨by rw [← HI.out]; rfl, rfl⟩
def anyUnk (ls : List Lot) : Nat → Bool
 | 0 => false
 | k + 1 => anyUnk ls k || !(lotAt ls k).known
theorem anyUnk_of {ls : List Lot} {k m : Nat} (h : anyUnk ls k = true) (hk : k ≤ m) : anyUnk ls m = true := by
 induction hk with
 | refl => exact h
 | step _ ih => simp [anyUnk, ih]
def knownB (f : Flow) : Bool := !anyUnk f.lots f.lots.length
theorem anyUnk_false {ls : List Lot} : ∀ {k : Nat}, anyUnk ls k = false → ∀ j, j < k → (lotAt ls j).known = true
 | 0, _, j, hj => by omega
 | k + 1, h, j, hj => by
  simp only [anyUnk, Bool.or_eq_false_iff] at h
  by_cases e : j = k
  ·subst e; simpa using h.2
  ·exact anyUnk_false h.1 j (by omega)
theorem unk_any (w : World) (vi vp : Value) (k : Bool) :
  Calls Tryz.prog 72 #[.agg #[vi, .bool k, vp]] w fun e w' => e = .returned (.bool (!k)) ∧ Below w.heap.size w w' := by
 go_enter Tryz.func72, Tryz.ntmps72
 go_wp2
 go_ret
 exact ⟨rfl, box_below' _ _⟩
set_option maxHeartbeats 1000000 in
theorem indexunk_any (B : Nat) (w : World) (v : Value) (ls : List Lot) (hv : IsLots B w v ls) (hB : B ≤ w.heap.size) :
  Calls Tryz.prog 91 #[v, .func (.func 72) #[] #[]] w fun e w' => ∃ i : Int, e = .returned (.int .i64 i) ∧ decide (0 ≤ i) = anyUnk ls ls.length ∧ Below w.heap.size w w' := by
 obtain ⟨b, off, cp, ⟨a, rfl, hcap, hmax, ha⟩, hlen, hcc⟩ := hv
 have HC := Lib.hid hcc
 have eg : ∀ args W, (callFunc 72 args).run Tryz.prog W = .ok (.enter 72 args) W := fun args W => by simp [go_sem]
 clear hcc
 go_enter Tryz.func91, Tryz.ntmps91
 go_wp2
 go_loopw [8] (fun i wr => ∃ k : Nat, k ≤ ls.length ∧ i = .int .i64 k ∧ anyUnk ls k = false ∧ Below w.heap.size w wr) (fun i _ => ls.length - (intOf i).toNat)
 case atStart => exact ⟨0, by omega, rfl, rfl, Below.refl _ _⟩
 case round =>
  obtain ⟨k, hk, rfl, h1, hbr⟩ := hrel
  have H1 := Lib.hid h1
  have HBR := Lib.hid hbr
  clear h1 hbr
  by_cases hlt : k < ls.length
  ·obtain rfl : a = some ⟨b, off, none⟩ := by rcases ha with ha | ha; exact ha; omega
   obtain ⟨vi, vk, vp, hc1, hc2, hc3, hl1, rfl, hl3⟩ := HC.out k hlt
   have hb0 : b < w.heap.size := by have := hc1.1; omega
   have cell1 := (HBR.out.cell (p := ⟨b, off + k * 3, none⟩) hb0).trans hc1.2
   have cell2 := (HBR.out.cell (p := ⟨b, off + k * 3 + 1, none⟩) hb0).trans hc2.2
   have cell3 := (HBR.out.cell (p := ⟨b, off + k * 3 + 2, none⟩) hb0).trans hc3.2
   have HS : Hid (anyUnk ls (k + 1) = (anyUnk ls k || !(lotAt ls k).known)) := Lib.hid rfl
   obtain ⟨kn, hkn⟩ : ∃ kn, (lotAt ls k).known = kn := ⟨_, rfl⟩
   rw [hkn] at HS cell2
   obtain ⟨b1, o1, c1, ⟨a1, rfl, _⟩, _⟩ := hl1
   obtain ⟨b3, o3, c3, ⟨a3, rfl, _⟩, _⟩ := hl3
   clear hc1 hc2 hc3 hkn
   cases kn
   ·go_wp2_with (go_at_call 72; refine (unk_any _ _ _ _).mono ?_; rintro e w7 ⟨rfl, hb7⟩; have HB7 := Lib.hid hb7; clear hb7)
    go_ret
    exact ⟨k, rfl, by rw [anyUnk_of (k := k + 1) (m := ls.length) (by rw [HS.out]; simp) (by omega)]; simp, HBR.out.trans (HB7.out.mono HBR.out.size)⟩
   ·go_wp2_with (go_at_call 72; refine (unk_any _ _ _ _).mono ?_; rintro e w7 ⟨rfl, hb7⟩; have HB7 := Lib.hid hb7; clear hb7)
    go_roundw
    case rel => exact ⟨k + 1, by omega, by go_num, by rw [HS.out, H1.out]; rfl, HBR.out.trans (HB7.out.mono HBR.out.size)⟩
    case measure => simp [intOf]; omega
  ·obtain rfl : k = ls.length := by omega
   go_wp2
   go_ret
   exact ⟨-1, rfl, by rw [H1.out]; rfl, HBR.out⟩
theorem containsunk_any (B : Nat) (w : World) (v : Value) (ls : List Lot) (hv : IsLots B w v ls) (hB : B ≤ w.heap.size) :
  Calls Tryz.prog 71 #[v, .func (.func 72) #[] #[]] w fun e w' => e = .returned (.bool (anyUnk ls ls.length)) ∧ Below w.heap.size w w' := by
 have HC := Lib.hid (indexunk_any B w v ls hv hB)
 clear hv
 go_enter Tryz.func71, Tryz.ntmps71
 go_wp2_with (go_at_call 91; refine HC.out.mono ?_; rintro e w5 ⟨i, rfl, hi, hb5⟩; have HI := Lib.hid hi; have HB5 := Lib.hid hb5; clear hi hb5)
 go_ret
 exact ⟨by rw [← HI.out]; rfl, HB5.out⟩
theorem known_any (B : Nat) (w : World) (vs vl : Value) (f : Flow) (hf : IsFlow B w vs vl f) (hB : B ≤ w.heap.size) :
  Calls Tryz.prog 55 #[.agg #[vs, vl]] w fun e w' => e = .returned (.bool (knownB f)) ∧ Below w.heap.size w w' := by
 have HC := Lib.hid (fun o => containsunk_any B (w.alloc o) vl f.lots (hf.2.2.below (box_below hB o) (Nat.le_refl _)) (by simp; omega))
 obtain ⟨rfl, _, hl⟩ := hf
 obtain ⟨b, off, cap, ⟨a, rfl, _⟩, _⟩ := hl
 go_enter Tryz.func55, Tryz.ntmps55
 go_wp2_with (go_at_call 71; refine (HC.out _).mono ?_; rintro e w5 ⟨rfl, hb5⟩; have HB5 := Lib.hid hb5; clear hb5)
 go_ret
 exact ⟨rfl, (box_below (Nat.le_refl _) _).trans (HB5.out.mono (by simp))⟩
end Go.Proofs.YteiaeaciaglmgaaGreat
namespace Go.Proofs.YteiaeaciaglmgaaGreat
open Go.RowKit
theorem OwnLots.rows {C : Nat} {w : World} {v : Value} {ls : List Lot} (h : OwnLots C w v ls) : ∀ k, v.ownBlock = some k → C ≤ k := by
 obtain ⟨vals, h1, _⟩ := h
 exact fun k hk => (h1.lt k hk).1
theorem run_store_func (P : Program) (w : World) (a : Addr) (m : Mode) (g : Fn) (x y : Array Value) : (store a (.func g x y) m).run P w = stored P w a (.func g x y) m := run_store P w a _ m rfl
attribute [local go_sem] run_store_func
end Go.Proofs.YteiaeaciaglmgaaGreat
namespace Go.Proofs.YteiaeaciaglmgaaGreat
/-- the lot and the place where a spot goes, among the first k lots -/
def locTo (f : Flow) (x : Int) : Nat → Option (Nat × Nat)
 | 0 => none
 | k + 1 => if hasB (lotAt f.lots k).ins x then some (k, (lotAt f.lots k).ins.idxOf x) else locTo f x k
/-- where a letter is behind k lots -/
def spotAt (f : Flow) (s : Int) : Nat → Int
 | 0 => s
 | k + 1 => if hasB (lotAt f.lots k).ins (spotAt f s k) then beforeI f k + nth (lotAt f.lots k).perm ((lotAt f.lots k).ins.idxOf (spotAt f s k)) else spotAt f s k
/-- the first unknown lot to which a letter comes, among the first k lots; -1 if there is none -/
def unkTo (f : Flow) (s : Int) : Nat → Int
 | 0 => -1
 | k + 1 => if 0 ≤ unkTo f s k then unkTo f s k else if hasB (lotAt f.lots k).ins (spotAt f s k) && !(lotAt f.lots k).known then (k : Int) else -1
def unkI (f : Flow) (s : Int) : Int := unkTo f s f.lots.length
theorem unkTo_lt (f : Flow) (s : Int) : ∀ k, -1 ≤ unkTo f s k ∧ unkTo f s k < k
 | 0 => by simp [unkTo]
 | k + 1 => by
  have ih := unkTo_lt f s k
  simp only [unkTo]
  split
  ·omega
  ·split <;> omega
theorem unkTo_stay {f : Flow} {s : Int} {k m : Nat} (h : 0 ≤ unkTo f s k) (hk : k ≤ m) : unkTo f s m = unkTo f s k := by
 induction hk with
 | refl => rfl
 | @step m _ ih => simp only [unkTo]; rw [if_pos (by rw [ih]; exact h), ih]
theorem ins_lt {f : Flow} {m k : Nat} (h : lotsB f m = true) (hk : k < m) {x : Int} (hx : hasB (lotAt f.lots k).ins x = true) : 0 ≤ x ∧ x < beforeI f k ∧ goneB f x k = false :=
 (lotB_facts (lotsB_lot h hk)).2.1 x (hasB_iff.1 hx)
/-- a letter stays as long as its spot goes into no lot -/
theorem spotAt_stay {f : Flow} {s : Int} {k m : Nat} (hk : k ≤ m) (h : ∀ j, k ≤ j → j < m → hasB (lotAt f.lots j).ins (spotAt f s k) = false) : spotAt f s m = spotAt f s k := by
 induction hk with
 | refl => rfl
 | @step m hm ih =>
  have e := ih (fun j h1 h2 => h j h1 (by omega))
  simp only [spotAt]
  rw [e, if_neg (by rw [h m hm (by omega)]; simp)]
theorem unkTo_stay' {f : Flow} {s : Int} {k m : Nat} (hk : k ≤ m) (h : ∀ j, k ≤ j → j < m → hasB (lotAt f.lots j).ins (spotAt f s k) = false) (h0 : ¬ 0 ≤ unkTo f s k) : unkTo f s m = -1 := by
 have hl := unkTo_lt f s k
 induction hk with
 | refl => omega
 | @step m hm ih =>
  have e := ih (fun j h1 h2 => h j h1 (by omega))
  have e2 := spotAt_stay hm (fun j h1 h2 => h j h1 (by omega))
  simp only [unkTo]
  rw [e, e2, h m hm (by omega)]
  rfl
/-- does none of the first i outs of a lot come to an unknown lot? -/
def lastTo (f : Flow) (k : Nat) : Nat → Bool
 | 0 => true
 | i + 1 => lastTo f k i && decide (unkI f (beforeI f k + i) < 0)
def lastB (f : Flow) (k : Nat) : Bool := lastTo f k (lotAt f.lots k).ins.length
/-- does one of the first i outs of lot k come to the unknown lot m? -/
def comesTo (f : Flow) (m k : Nat) : Nat → Bool
 | 0 => false
 | i + 1 => comesTo f m k i || (unkI f (beforeI f k + i) == (m : Int))
/-- is lot m reached from an unknown one of the first k lots? -/
def hitTo (f : Flow) (m : Nat) : Nat → Bool
 | 0 => false
 | k + 1 => hitTo f m k || (!(lotAt f.lots k).known && comesTo f m k (lotAt f.lots k).ins.length)
def firstB (f : Flow) (k : Nat) : Bool := !hitTo f k k
def lastL (f : Flow) : Nat → List Int
 | 0 => []
 | k + 1 => if !(lotAt f.lots k).known && lastB f k then lastL f k ++ [(k : Int)] else lastL f k
def firstL (f : Flow) : Nat → List Int
 | 0 => []
 | k + 1 => if !(lotAt f.lots k).known && firstB f k then firstL f k ++ [(k : Int)] else firstL f k
end Go.Proofs.YteiaeaciaglmgaaGreat
namespace Go.Proofs.YteiaeaciaglmgaaGreat
open Go.RowKit
theorem before_bd {f : Flow} (h : checkE f = 0) {k : Nat} (hk : k ≤ f.lots.length) : 0 ≤ beforeI f k ∧ beforeI f k ≤ 50000 := by
 have h1 := checkE_ok h
 have h2 := beforeI_mono (f := f) (Nat.zero_le k)
 have h3 := beforeI_mono (f := f) hk
 simp only [beforeI] at h2
 omega
end Go.Proofs.YteiaeaciaglmgaaGreat
namespace Go.Proofs.YteiaeaciaglmgaaGreat
open Go.RowKit Go.MapKept
/-- block r goes over the map in block bm, which holds the pairs l; the pairs left are still to come -/
def MapIter (w : World) (bm r : Nat) (l left : AL) : Prop :=
 ∃ es c seen c0, w.heap[bm]? = some (.map es c) ∧ w.heap[r]? = some (.mapIter (some bm) c seen c0) ∧ Stamped es c ∧ c ≤ c0 ∧ es.toList.map (fun e => (e.key, e.val)) = l.map (fun p => (Value.int .i64 p.1, p.2)) ∧
  (leftOf es seen).toList.map (fun e => (e.key, e.val)) = left.map (fun p => (Value.int .i64 p.1, p.2))
theorem MapIter.kept {w w' : World} {bm r : Nat} {l left : AL} {row : Option Nat} (h : MapIter w bm r l left) (hg : w.grownBy w' row) (h1 : some bm ≠ row) (h2 : some r ≠ row) : MapIter w' bm r l left := by
 obtain ⟨es, c, seen, c0, a, b, rest⟩ := h
 exact ⟨es, c, seen, c0, (hg.block bm (Array.getElem?_eq_some_iff.1 a).1 h1).trans a, (hg.block r (Array.getElem?_eq_some_iff.1 b).1 h2).trans b, rest⟩
theorem MapIter.below {w w' : World} {bm r : Nat} {l left : AL} (h : MapIter w bm r l left) (hb : Below w.heap.size w w') : MapIter w' bm r l left :=
 h.kept (row := none) ⟨hb.os, hb.tape, hb.output, hb.size, fun k hk _ => hb.block k hk⟩ (by simp) (by simp)
theorem MapIter.alloc {w : World} {bm r : Nat} {l left : AL} (h : MapIter w bm r l left) (o : Obj) : MapIter (w.alloc o) bm r l left := h.below (box_below' w o)
theorem MapIter.map {w : World} {bm r : Nat} {l left : AL} (h : MapIter w bm r l left) : IntMap w bm l := by
 obtain ⟨es, c, seen, c0, a, b, d, e, f, g⟩ := h
 exact ⟨es, c, a, d, f⟩
theorem MapIter.lt {w : World} {bm r : Nat} {l left : AL} (h : MapIter w bm r l left) : bm < w.heap.size ∧ r < w.heap.size := by
 obtain ⟨es, c, seen, c0, a, b, _⟩ := h
 exact ⟨(Array.getElem?_eq_some_iff.1 a).1, (Array.getElem?_eq_some_iff.1 b).1⟩
theorem left_push (es : Array MapEntry) (seen : Array Nat) (b : Nat) : (leftOf es (seen.push b)).toList = (leftOf es seen).toList.filter (fun e => e.born != b) := by
 unfold leftOf
 simp only [Array.toList_filter, List.filter_filter]
 congr 1
 funext e
 rw [contains_push]
 rw [Bool.eq_iff_iff]
 simp only [Bool.not_eq_true', Bool.or_eq_false_iff, Bool.and_eq_true, bne_iff_ne, ne_eq, beq_eq_false_iff_ne, Bool.not_eq_eq_eq_not, Bool.not_true]
 constructor
 ·rintro ⟨h1, h2⟩; exact ⟨h2, h1⟩
 ·rintro ⟨h1, h2⟩; exact ⟨h2, h1⟩
theorem filter_out {l : List MapEntry} {e : MapEntry} (he : e ∈ l) (hn : (l.map (·.born)).Nodup) : ∃ A B, l = A ++ e :: B ∧ l.filter (fun x => x.born != e.born) = A ++ B := by
 obtain ⟨A, B, rfl⟩ := List.append_of_mem he
 refine ⟨A, B, rfl, ?_⟩
 rw [List.map_append, List.map_cons, List.nodup_append] at hn
 obtain ⟨h1, h2, h3⟩ := hn
 rw [List.nodup_cons] at h2
 rw [List.filter_append, List.filter_cons]
 simp only [bne_self_eq_false, Bool.false_eq_true, if_false]
 congr 1
 ·rw [List.filter_eq_self]
  intro x hx
  simp only [bne_iff_ne, ne_eq]
  exact h3 _ (List.mem_map_of_mem hx) _ (by simp)
 ·rw [List.filter_eq_self]
  intro x hx
  simp only [bne_iff_ne, ne_eq]
  intro e'
  exact h2.1 (e' ▸ List.mem_map_of_mem hx)
theorem map_split {α β : Type} {f : α → β} {γ : Type} {g : γ → β} : ∀ {A : List α} {e : α} {B : List α} {L : List γ}, (A ++ e :: B).map f = L.map g → ∃ A' p B', L = A' ++ p :: B' ∧ f e = g p ∧ (A ++ B).map f = (A' ++ B').map g
 | [], e, B, L, h => by
  cases L with
  | nil => simp at h
  | cons p L' =>
   simp only [List.nil_append, List.map_cons, List.cons.injEq] at h
   exact ⟨[], p, L', rfl, h.1, by simpa using h.2⟩
 | a :: A, e, B, L, h => by
  cases L with
  | nil => simp at h
  | cons p L' =>
   simp only [List.cons_append, List.map_cons, List.cons.injEq] at h
   obtain ⟨A', q, B', h1, h2, h3⟩ := map_split h.2
   refine ⟨p :: A', q, B', by rw [h1]; rfl, h2, ?_⟩
   simp only [List.cons_append, List.map_cons, h.1, h3]
section
variable {P : Program} {w : World} {ops : Array Oper} {rest : List Oper} {o : Oper} {a : Act} {Q : Exit → Act → World → Prop}
theorem grown_drew (w : World) (row : Option Nat) : w.grownBy w.drew row := ⟨rfl, rfl, rfl, Nat.le_refl _, fun _ _ _ => rfl⟩
theorem wpList_range_ints {T K E : TypeId} {bm : Nat} {l : AL} (hg : Region.wanted o (yielded ops a.tmps) = true) (m : Operand) (hop : o.op = Op.range T m) (hT : P.underlying T = some (.map K E)) (hm : a.eval m = .map (some bm)) (h : IntMap w bm l)
  (hk : ∀ w', MapIter w' bm w.heap.size l l → Below w.heap.size w w' → w'.heap.size = w.heap.size + 1 → wpList P ops Q rest (a.put o.dst (.pointer (some ⟨w.heap.size, 0, none⟩))) w') : wpList P ops Q (o :: rest) a w := by
 refine wpList_want hg fun K' hK' => ?_
 obtain ⟨es, c, hb, hs, he⟩ := h
 have hrun := run_range_map (P := P) w T K E bm es c hT hb
 unfold Oper.wp
 simp [execOp, hop, hm, hrun, Result.andThen]
 refine hK' _ _ (hk _ ?_ (box_below' _ _) (by simp))
 have hlt := (Array.getElem?_eq_some_iff.1 hb).1
 refine ⟨es, c, #[], c, (Below.heap_alloc w _ bm hlt).trans hb, heap_alloc_new w _, hs, Nat.le_refl _, he, ?_⟩
 have : leftOf es #[] = es := by unfold leftOf; simp
 rw [this, he]
theorem wpList_next_ints {bm r : Nat} {l left : AL} (hg : Region.wanted o (yielded ops a.tmps) = true) (it : Operand) (hop : o.op = Op.next it false) (hit : a.eval it = .pointer (some ⟨r, 0, none⟩)) (h : MapIter w bm r l left) (hne : r ≠ bm)
  (hDone : left = [] → wpList P ops Q rest (a.put o.dst (.tuple #[.bool false])) w)
  (hMore : ∀ (A : AL) (x : Int) (v : Value) (B : AL) (w' : World), left = A ++ (x, v) :: B → MapIter w' bm r l (A ++ B) → w.grownBy w' (some r) → w'.heap.size = w.heap.size →
   (Instr.entry (.pointer (some ⟨r, 0, none⟩))).run P w' = .ok (.tuple #[.int .i64 x, v]) w' → wpList P ops Q rest (a.put o.dst (.tuple #[.bool true, .int .i64 x, v])) w') : wpList P ops Q (o :: rest) a w := by
 refine wpList_want hg fun K' hK' => ?_
 obtain ⟨es, c, seen, c0, hb, hr, hs, hc, he, hl⟩ := h
 unfold Oper.wp
 rcases run_next_at (P := P) w o.type r bm c c0 seen es c hr hb hs.1 hc with ⟨h0, hrun⟩ | ⟨e, hm, w1, hw1, hrun⟩
 ·simp [execOp, hop, hit, hrun, Result.andThen]
  refine hK' _ _ (hDone ?_)
  have : (leftOf es seen).toList = [] := List.eq_nil_of_length_eq_zero (by simpa using h0)
  rw [this] at hl
  simpa using hl.symm
 ·have hml := mem_left hm
  have hnd : ((leftOf es seen).toList.map (·.born)).Nodup := by
   unfold leftOf
   rw [Array.toList_filter]
   exact List.Nodup.sublist (List.Sublist.map _ List.filter_sublist) hs.2.1
  obtain ⟨A, B, hAB, hfo⟩ := filter_out hm hnd
  rw [hAB] at hl
  obtain ⟨A', p, B', hL, hp, hAB'⟩ := map_split hl
  obtain ⟨x, v⟩ := p
  simp only [Prod.mk.injEq] at hp
  have hlr := (Array.getElem?_eq_some_iff.1 hr).1
  have hw1s : w1.heap = w.heap := by rcases hw1 with rfl | rfl <;> rfl
  have hg1 : w.grownBy w1 (some r) := by rcases hw1 with rfl | rfl; exact grown_refl _ _; exact grown_drew _ _
  have hg2 : w1.grownBy (Go.ChangeMaps.setBlock w1 r (.mapIter (some bm) c (seen.push e.born) c)) (some r) := by
   refine ⟨rfl, rfl, rfl, by simp [Go.ChangeMaps.setBlock], fun k hk hne => ?_⟩
   simp only [Go.ChangeMaps.setBlock]
   rw [Array.getElem?_setIfInBounds_ne]
   intro e; exact hne (by rw [e])
  have hgw := grown_trans hg1 hg2
  have hsz : (Go.ChangeMaps.setBlock w1 r (.mapIter (some bm) c (seen.push e.born) c)).heap.size = w.heap.size := by simp [Go.ChangeMaps.setBlock, hw1s]
  have hr' : (Go.ChangeMaps.setBlock w1 r (.mapIter (some bm) c (seen.push e.born) c)).heap[r]? = some (.mapIter (some bm) c (seen.push e.born) c) := by
   simp only [Go.ChangeMaps.setBlock, hw1s]
   rw [Array.getElem?_setIfInBounds_self_of_lt hlr]
  have hb' : (Go.ChangeMaps.setBlock w1 r (.mapIter (some bm) c (seen.push e.born) c)).heap[bm]? = some (.map es c) :=
   (hgw.block bm (Array.getElem?_eq_some_iff.1 hb).1 (by simpa using fun e => hne e.symm)).trans hb
  have hen := run_entry_at (P := P) _ r bm c seen es c e hr' hb' hml.1 hs.2.1
  rw [hp.1, hp.2] at hen
  simp [execOp, hop, hit, hrun, Result.andThen]
  rw [hp.1, hp.2]
  refine hK' _ _ (hMore A' x v B' _ hL ⟨es, c, seen.push e.born, c, hb', hr', hs, Nat.le_refl _, he, ?_⟩ hgw hsz hen)
  rw [left_push, hfo, hAB']
end
end Go.Proofs.YteiaeaciaglmgaaGreat
